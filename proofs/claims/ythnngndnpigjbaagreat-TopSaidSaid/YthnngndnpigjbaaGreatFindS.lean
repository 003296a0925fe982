/- The walk of sets.Find's own question: is this record of that name and that type? Conditions: none. The walks of sets.right and its iterator. Conditions: none. The walk of sets.Find. Conditions: none. -/
import Derived.Test.YthnngndnpigjbaaGreatBuild
import Derived.Test.YthnngndnpigjbaaGreatSame
import Derived.Test.YthnngndnpigjbaaGreatQLow
import Derived.Test.YthnngndnpigjbaaGreatRet
import Derived.Test.YthnngndnpigjbaaGreatRrOk
import Derived.Test.YthnngndnpigjbaaGreatCollS
import Derived.Test.YthnngndnpigjbaaGreatRegC
import Derived.Sort.LoopGhostIn
import Derived.OwnWalkIn
import Derived.Test.YthnngndnpigjbaaGreatEnds
namespace Go.Proofs.YthnngndnpigjbaaGreat
open Go.RowKit Go.Lib

/-- Of that type, and of a name that differs in letters' case alone. -/
def nearR (t : Int) (n : ByteArray) (r : RRec) : Bool := decide (r.t = t) && (decide (r.n.size = n.size) && decide (foldB r.n.data.toList = foldB n.data.toList))
theorem beq_ba (G F : ByteArray) : (G.toList == F.toList) = decide (G = F) := by
  rw [ByteArray.toList_eq, ByteArray.toList_eq]
  by_cases h : G = F
  · subst h; simp
  · have h2 : ¬ G.data.toList = F.data.toList := fun e => h (by have h3 := Array.toList_inj.1 e; cases G; cases F; dsimp only at h3; rw [h3])
    rw [decide_eq_false h]
    exact beq_false_of_ne h2
set_option maxRecDepth 100000 in
set_option maxHeartbeats 4000000 in
theorem near_any {w : World} {ty : TypeId} {bt bn bf : Nat} {t : Int} {n F : ByteArray} (ht : Blk w bt ty #[.int .u16 t]) (hn : Blk w bn 9 #[.string n]) (hf : Blk w bf 9 #[.string F]) (hF : F = ⟨(foldB n.data.toList).toArray⟩) (hns : n.size ≤ 1000000) (r : RRec) (hr : r.n.size ≤ 1000000) :
    Calls Tryz.prog 34 #[.agg #[.string r.n, .int .u16 r.t, .int .u16 r.c, .int .u32 r.l, .string r.d], .pointer (some ⟨bt, 0, none⟩), .pointer (some ⟨bn, 0, none⟩), .pointer (some ⟨bf, 0, none⟩)] w fun e w' => e = .returned (.bool (nearR t n r)) ∧ Below w.heap.size w w' := by
  have HF := Lib.hid (fun W => Fold_any r.n (by omega) W)
  obtain ⟨G, hG⟩ : ∃ G : ByteArray, (⟨(foldB r.n.data.toList).toArray⟩ : ByteArray) = G := ⟨_, rfl⟩
  rw [hG] at HF
  have hFG : (decide (foldB r.n.data.toList = foldB n.data.toList)) = decide (G = F) := by
    rw [← hG, hF]
    by_cases h : foldB r.n.data.toList = foldB n.data.toList
    · simp [h]
    · have : ¬ (⟨(foldB r.n.data.toList).toArray⟩ : ByteArray) = ⟨(foldB n.data.toList).toArray⟩ := fun e => by
        injection e with e
        exact h (by simpa using congrArg Array.toList e)
      simp [h, this]
  unfold nearR
  rw [hFG]
  obtain ⟨rn, rt, rc, rl, rd⟩ := r
  dsimp only at *
  clear hF hG hFG
  obtain ⟨W0, hW0⟩ : ∃ W0, w.alloc (.cells #[.string rn, .int .u16 rt, .int .u16 rc, .int .u32 rl, .string rd] 33) = W0 := ⟨_, rfl⟩
  have hR : Blk W0 w.heap.size 33 #[.string rn, .int .u16 rt, .int .u16 rc, .int .u32 rl, .string rd] := by rw [← hW0]; exact Blk.new _ _ _
  have hbw : Below w.heap.size w W0 := by rw [← hW0]; exact (Below.refl _ _).alloc (Nat.le_refl _) _
  have b0 : ∀ p : BelowOf W0, p.X.cell? ⟨bt, 0, none⟩ = some (.int .u16 t) := fun p => ((ht.below hbw ht.lt).low p).cell 0
  have b1 : ∀ p : BelowOf W0, p.X.cell? ⟨bn, 0, none⟩ = some (.string n) := fun p => ((hn.below hbw hn.lt).low p).cell 0
  have b2 : ∀ p : BelowOf W0, p.X.cell? ⟨bf, 0, none⟩ = some (.string F) := fun p => ((hf.below hbw hf.lt).low p).cell 0
  have r0 : ∀ p : BelowOf W0, p.X.cell? ⟨w.heap.size, 0, none⟩ = some (.string rn) := fun p => (hR.low p).cell 0
  have r1 : ∀ p : BelowOf W0, p.X.cell? ⟨w.heap.size, 1, none⟩ = some (.int .u16 rt) := fun p => (hR.low p).cell 1
  have HB := Lib.hid hbw
  clear ht hn hf hR hbw
  by_cases h1 : rt = t
  · subst h1
    by_cases h2 : rn.size = n.size
    · rw [decide_eq_true h2]
      have h2I : (rn.size : Int) = (n.size : Int) := by omega
      go_enter Tryz.func34, Tryz.ntmps34
      go_wp2_with (fail)
      obtain ⟨rb, hrb⟩ : ∃ rb, w.heap.size = rb := ⟨_, rfl⟩
      rw [hrb] at r0 r1
      rw [hrb]
      clear hW0 hrb
      refine wp_region_low (by kernel_rfl) (by kernel_rfl) ?_
      repeat (refine low_step (fun K hK => ?_); go_simp; first | (refine hK _ ?_; clear hK K) | (apply Exists.intro; refine ⟨fun _ => ?_, hK _ ?_⟩; (first | (go_at_call 30; exact calls_low (HF.out _))); clear hK K))
      refine low_nil ?_
      rintro ⟨W5, hb5⟩
      dsimp only
      clear b0 b1 b2 r0 r1
      go_wp2_with (fail)
      go_ret
      exact ⟨ret_b (by first | (simp; done) | (simp; exact beq_ba _ _)), HB.out.trans (hb5.mono HB.out.size)⟩
    · rw [decide_eq_false h2]
      have h2I : ¬ (rn.size : Int) = (n.size : Int) := by omega
      go_enter Tryz.func34, Tryz.ntmps34
      go_wp2_with (fail)
      obtain ⟨rb, hrb⟩ : ∃ rb, w.heap.size = rb := ⟨_, rfl⟩
      rw [hrb] at r0 r1
      rw [hrb]
      clear hW0 hrb
      refine wp_region_low (by kernel_rfl) (by kernel_rfl) ?_
      repeat (refine low_step (fun K hK => ?_); go_simp; first | (refine hK _ ?_; clear hK K) | (apply Exists.intro; refine ⟨fun _ => ?_, hK _ ?_⟩; (first | (go_at_call 30; exact calls_low (HF.out _))); clear hK K))
      refine low_nil ?_
      rintro ⟨W5, hb5⟩
      dsimp only
      clear b0 b1 b2 r0 r1
      go_wp2_with (fail)
      go_ret
      exact ⟨ret_b (by simp), HB.out.trans (hb5.mono HB.out.size)⟩
  · rw [decide_eq_false h1]
    go_enter Tryz.func34, Tryz.ntmps34
    go_wp2_with (fail)
    obtain ⟨rb, hrb⟩ : ∃ rb, w.heap.size = rb := ⟨_, rfl⟩
    rw [hrb] at r0 r1
    rw [hrb]
    clear hW0 hrb
    refine wp_region_low (by kernel_rfl) (by kernel_rfl) ?_
    repeat (refine low_step (fun K hK => ?_); go_simp; first | (refine hK _ ?_; clear hK K) | (apply Exists.intro; refine ⟨fun _ => ?_, hK _ ?_⟩; (first | (go_at_call 30; exact calls_low (HF.out _))); clear hK K))
    refine low_nil ?_
    rintro ⟨W5, hb5⟩
    dsimp only
    clear b0 b1 b2 r0 r1
    go_wp2_with (fail)
    go_ret
    exact ⟨ret_b (by simp), HB.out.trans (hb5.mono HB.out.size)⟩
end Go.Proofs.YthnngndnpigjbaaGreat

namespace Go.Proofs.YthnngndnpigjbaaGreat
open Go.RowKit Go.Lib Go.Shelf
attribute [local go_sem] Oper.semAt_some

def rightL (xs : List RRec) : List RRec := xs.filter rightB
theorem right_step {xs : List RRec} {j : Nat} {r : RRec} (h : xs[j]? = some r) : rightL (xs.take (j + 1)) = rightL (xs.take j) ++ (if rightB r = true then [r] else []) := by
  unfold rightL
  rw [List.take_add_one, h]
  by_cases hr : rightB r = true <;> simp [hr]
theorem right_pre (xs : List RRec) (j : Nat) : rightL (xs.take j) <+: rightL xs := (List.take_prefix j xs).filter _
theorem KeepS.cellR {S : Nat → Prop} {U V : World} (h : KeepS S U V) {a : Addr} (ha : a.block < U.heap.size) (hs : S a.block) : V.cell? a = U.cell? a := World.cell?_of_block (h.same _ ha hs)
set_option maxRecDepth 100000 in
set_option maxHeartbeats 4000000 in
theorem right1_K (Bl c : Nat) (A : Option Addr) (xs : List RRec) (K : Nat → Prop) (w : World) (hB : Blk w Bl 22 #[.slice A xs.length c]) (hT : RTab w A xs) (hKB : K Bl) (hKA : 0 < xs.length → ∀ a, A = some a → K a.block) (hx : xs.length ≤ 1000000) (hz : ∀ e ∈ xs, e.n.size ≤ maxLen ∧ e.d.size ≤ 140737488355328) :
    SeqK Tryz.prog 55 #[.pointer (some ⟨Bl, 0, none⟩)] (fun r : RRec => #[r.val]) K (rightL xs) w := by
  intro m l J Jx W hW hJ hJx hY h0
  obtain ⟨n, hn⟩ : ∃ n : Nat, 8 ≤ n := ⟨8, by omega⟩
  refine callsIn_wide.2 ((callsIn_wide (n := n)).1 ?_)
  have h1n : 1 ≤ n := by omega
  have KW := Lib.hid (KeepS.of_below hW : KeepS K w W)
  have c1 : W.cell? ⟨Bl, 0, none⟩ = some (.slice A xs.length c) := (KW.out.cellR (a := ⟨Bl, 0, none⟩) hB.lt hKB).trans (hB.cell 0)
  have hlI : (xs.length : Int) ≤ 1000000 := by omega
  have HS := Lib.hid (fun (r : RRec) (hr : r.n.size ≤ maxLen ∧ r.d.size ≤ 140737488355328) W' => (callsIn_wide (n := n - 1)).2 (recCheck_any r hr.1 hr.2 W'))
  have HJ := Lib.hid (And.intro hJ (And.intro hJx hY))
  have H0 := Lib.hid h0
  have HT := Lib.hid (And.intro hT (And.intro hKA hz))
  have HB := Lib.hid (And.intro hB hKB)
  clear hW hJ hJx hY h0 hT hKA hz hB hKB hx
  refine callsIn_of_wp Tryz.func55 rfl trivial ?_ rfl
  simp only [Tryz.ntmps55, List.size_toArray, List.length_cons, List.length_nil, Nat.reduceAdd, Nat.reduceSub, Array.replicate_succ, Array.replicate_zero, List.push_toArray, List.append_toArray, List.nil_append, List.cons_append]
  gi_wp2_with (fail)
  gi_loopg [7] (xs.length + 1) (fun g2 v7 ws => ∃ j : Nat, v7 = .int .i64 (j : Int) ∧ Aside (g2 + j = xs.length + 1) ∧ j ≤ xs.length ∧ Aside (J (rightL (xs.take j)) ws) ∧ Aside (KeepS K w ws))
  case atStart => exact ⟨0, rfl, rfl, by omega, H0.out, KW.out⟩
  case round =>
    obtain ⟨j, rfl, hg2, hjl, hjj, hkk⟩ := hrel
    by_cases hlt2 : j < xs.length
    · obtain ⟨⟨rn, rt, rc, rl, rd⟩, hr⟩ : ∃ r, xs[j]? = some r := ⟨_, List.getElem?_eq_getElem hlt2⟩
      have hrm := List.mem_of_getElem? hr
      have hlt2I : (j : Int) < (xs.length : Int) := by omega
      obtain ⟨b, off, rfl, hbw, d0, d1, d2, d3, d4⟩ := HT.out.1.cells hr
      have hkb : K b := HT.out.2.1 (by omega) _ rfl
      have hsz := hkk.out.size
      have hcell : ∀ k u, w.cell? ⟨b, k, none⟩ = some u → wr.cell? ⟨b, k, none⟩ = some u := fun k u hu => (hkk.out.cellR (a := ⟨b, k, none⟩) hbw hkb).trans hu
      have e0 : wr.cell? ⟨b, off + j * 5, none⟩ = some (.string rn) := hcell _ _ d0
      have e1 : wr.cell? ⟨b, off + j * 5 + 1, none⟩ = some (.int .u16 rt) := hcell _ _ d1
      have e2 : wr.cell? ⟨b, off + j * 5 + 2, none⟩ = some (.int .u16 rc) := hcell _ _ d2
      have e3 : wr.cell? ⟨b, off + j * 5 + 3, none⟩ = some (.int .u32 rl) := hcell _ _ d3
      have e4 : wr.cell? ⟨b, off + j * 5 + 4, none⟩ = some (.string rd) := hcell _ _ d4
      have hbs : b < wr.heap.size := by omega
      have HC := Lib.hid (HS.out ⟨rn, rt, rc, rl, rd⟩ (HT.out.2.2 _ hrm))
      dsimp only [RRec.val] at HC
      have HP := Lib.hid (right_step hr)
      have HQ := Lib.hid (right_pre xs (j + 1))
      clear hcell d0 d1 d2 d3 d4 hr hrm hkb hbw hsz hlt2 c1
      by_cases hc1 : rc = 1
      case neg =>
        have q1 : (rc != 1) = true := by simp [hc1]
        have hno : rightB ⟨rn, rt, rc, rl, rd⟩ = false := by unfold rightB; simp [hc1]
        rw [hno] at HP
        clear hno hc1 HC HQ
        gi_wp2_with (fail)
        refine ⟨trivial, ?_⟩
        gi_wp2_with (fail)
        have hb3 : Below wr.heap.size wr (wr.alloc (.cells #[.string rn, .int .u16 rt, .int .u16 rc, .int .u32 rl, .string rd] 33)) := (Below.refl _ _).alloc (Nat.le_refl _) _
        gi_roundg (xs.length - j)
        case measure => have := hg2.out; omega
        case rel =>
          refine ⟨j + 1, rfl, (by show _ = _; omega), by omega, ?_, hkk.out.trans (.of_below hb3)⟩
          show J _ _
          rw [show rightL (xs.take (j + 1)) = rightL (xs.take j) from HP.out.trans (by simp)]
          exact HJ.out.1 _ _ _ hjj.out hb3
      subst hc1
      cases hst : chkR ⟨rn, rt, 1, rl, rd⟩ with
      | false =>
        rw [codeR_no hst] at HC
        have hno : rightB ⟨rn, rt, 1, rl, rd⟩ = false := by unfold rightB; rw [hst]; simp
        rw [hno] at HP
        clear hst hno HQ
        gi_wp2_with (refine ⟨trivial, ?_⟩; gi_at_call 45; refine (HC.out _).mono ?_; rintro e w2 ⟨rfl, hb2⟩)
        have hb3 : Below wr.heap.size wr w2 := ((Below.refl _ _).alloc (Nat.le_refl _) _).trans (hb2.mono (by simp))
        gi_roundg (xs.length - j)
        case measure => have := hg2.out; omega
        case rel =>
          refine ⟨j + 1, rfl, (by show _ = _; omega), by omega, ?_, hkk.out.trans (.of_below hb3)⟩
          show J _ _
          rw [show rightL (xs.take (j + 1)) = rightL (xs.take j) from HP.out.trans (by simp)]
          exact HJ.out.1 _ _ _ hjj.out hb3
      | true =>
        rw [codeR_yes hst] at HC
        have hyes : rightB ⟨rn, rt, 1, rl, rd⟩ = true := by unfold rightB; rw [hst]; simp
        rw [hyes] at HP
        have hp1 : rightL (xs.take (j + 1)) = rightL (xs.take j) ++ [⟨rn, rt, 1, rl, rd⟩] := HP.out.trans (by simp)
        have HP2 := Lib.hid (And.intro hp1 (show rightL (xs.take j) ++ [⟨rn, rt, 1, rl, rd⟩] <+: rightL xs from hp1 ▸ HQ.out))
        clear hst hyes HP HQ hp1
        gi_wp2_with (refine ⟨trivial, ?_⟩; gi_at_call 45; refine (HC.out _).mono ?_; rintro e w2 ⟨rfl, hb2⟩; have hb3 : Below wr.heap.size wr w2 := ((Below.refl _ _).alloc (Nat.le_refl _) _).trans (hb2.mono (by simp)); have hX := (Blk.new wr 33 #[.string rn, .int .u16 rt, .int .u16 1, .int .u32 rl, .string rd]).below hb2 (by simp); have x0 := hX.cell 0; have x1 := hX.cell 1; have x2 := hX.cell 2; have x3 := hX.cell 3; have x4 := hX.cell 4; obtain ⟨fn, tmps, assign, body, hyl, hR⟩ := yield_deep (m := n - 1) (HJ.out.2.2 _ _ w2 (HJ.out.1 _ _ _ hjj.out hb3) HP2.out.2); dsimp only [RRec.val] at hyl; have HX := Lib.hid (And.intro hb3 hR); clear hX hb2 hR hb3 HC)
        refine HX.out.2.mono ?_
        rintro e W3 (⟨rfl, h1, h2⟩ | ⟨rfl, h1⟩)
        · have H1 := Lib.hid (And.intro h1 h2)
          clear h1 h2 x0 x1 x2 x3 x4
          gi_wp2_with (fail)
          gi_roundg (xs.length - j)
          case measure => have := hg2.out; omega
          case rel =>
            refine ⟨j + 1, rfl, (by show _ = _; omega), by omega, ?_, (hkk.out.trans (.of_below HX.out.1)).trans H1.out.2⟩
            show J _ _
            rw [HP2.out.1]
            exact H1.out.1
        · have H1 := Lib.hid h1
          clear h1 x0 x1 x2 x3 x4
          gi_wp2_with (fail)
          refine bodyPost_ret (results_none rfl _ _ _) rfl ?_
          exact ⟨⟨_, rfl⟩, .inr ⟨_, HP2.out.2, H1.out⟩⟩
    · have hlt2I : ¬ (j : Int) < (xs.length : Int) := by omega
      have HJD := Lib.hid (show J (rightL xs) wr from by
        have h1 := hjj.out
        rw [show j = xs.length by omega, List.take_length] at h1
        exact h1)
      clear hlt2 hjj
      gi_wp2_with (fail)
      refine bodyPost_end (results_none rfl _ _ _) rfl ?_
      exact ⟨⟨_, rfl⟩, .inl HJD.out⟩
theorem right_any (A : Option Addr) (n c : Nat) (w : World) :
    Calls Tryz.prog 36 #[.slice A n c] w fun e w' => e = .returned (.func (.func 55) #[] #[.pointer (some ⟨w.heap.size, 0, none⟩)]) ∧ w' = w.alloc (.cells #[.slice A n c] 22) := by
  go_enter Tryz.func36, Tryz.ntmps36
  go_wp2
  go_ret
  exact ⟨rfl, rfl⟩
end Go.Proofs.YthnngndnpigjbaaGreat

namespace Go.Proofs.YthnngndnpigjbaaGreat
open Go.RowKit Go.Lib

/-- No set. -/
def NoSet (w : World) (e : Ending) (w' : World) : Prop := e = .returned (.tuple #[.agg #[.string ⟨#[]⟩, .int .u16 0, .int .u32 0, .slice none 0 0], .int .i64 3]) ∧ Below w.heap.size w w'
/-- A set made of these records, and no fault. -/
def FoundP (n : ByteArray) (t : Int) (L : List RRec) (w : World) (e : Ending) (w' : World) : Prop :=
  ∃ (P : List Nat) (ds : List ByteArray) (Ad : Option Addr) (cd : Nat), SrtK (keyF (foldsL t L)) cmpS P ∧ StS (keyF (foldsL t L)) P (List.range L.length) ∧ ds = pickD L ((ddX (keyF (foldsL t L)) none P).take 64) ∧ e = .returned (.tuple #[setV n t (minL L) Ad ds cd, .int .i64 0]) ∧ Sl w' 1 (.slice Ad ds.length cd) ds.length (ds.map Value.string) ∧ (∀ h, (Value.slice Ad ds.length cd).ownBlock = some h → w.heap.size ≤ h) ∧ Below w.heap.size w w'
def FindP (n : ByteArray) (t : Int) (L : List RRec) (w : World) (e : Ending) (w' : World) : Prop :=
  (chkN n.data.toList ≠ 0 ∧ NoSet w e w') ∨ (chkN n.data.toList = 0 ∧ rightL (L.filter (nearR t n)) = [] ∧ NoSet w e w') ∨
    (chkN n.data.toList = 0 ∧ rightL (L.filter (nearR t n)) ≠ [] ∧ FoundP n t (rightL (L.filter (nearR t n))) w e w')
/-- The empty set is written over the empty set. -/
theorem no_set {w w2 : World} {b : Nat} (h : Blk w2 b 36 #[.string ⟨#[]⟩, .int .u16 0, .int .u32 0, .slice none 0 0]) (hb : Below w.heap.size w w2) (hl : w.heap.size ≤ b) :
    Blk ((((w2.setCell ⟨b, 0, none⟩ (.string ⟨#[]⟩)).setCell ⟨b, 1, none⟩ (.int .u16 0)).setCell ⟨b, 2, none⟩ (.int .u32 0)).setCell ⟨b, 3, none⟩ (.slice none 0 0)) b 36 #[.string ⟨#[]⟩, .int .u16 0, .int .u32 0, .slice none 0 0] ∧ Below w.heap.size w ((((w2.setCell ⟨b, 0, none⟩ (.string ⟨#[]⟩)).setCell ⟨b, 1, none⟩ (.int .u16 0)).setCell ⟨b, 2, none⟩ (.int .u32 0)).setCell ⟨b, 3, none⟩ (.slice none 0 0)) := by
  refine ⟨?_, (((hb.setCell (p := ⟨b, 0, none⟩) hl _).setCell (p := ⟨b, 1, none⟩) hl _).setCell (p := ⟨b, 2, none⟩) hl _).setCell (p := ⟨b, 3, none⟩) hl _⟩
  have h9 := (((h.set_ 0 (.string ⟨#[]⟩)).set_ 1 (.int .u16 0)).set_ 2 (.int .u32 0)).set_ 3 (.slice none 0 0)
  simpa using h9
set_option maxRecDepth 100000 in
set_option maxHeartbeats 8000000 in
theorem findS_any {m : Nat} (hm : StabOkI m) (n : ByteArray) (t : Int) (A : Option Addr) (c : Nat) (L : List RRec) (w : World) (hT : RTab w A L) (hl : L.length ≤ m) (hl2 : L.length ≤ 1000) (hn : n.size ≤ 1000000) (hd : ∀ r ∈ L, r.n.size ≤ 1000000 ∧ r.d.size ≤ 1000000 ∧ 0 ≤ r.l ∧ r.l ≤ 4294967295) :
    Calls Tryz.prog 16 #[.string n, .int .u16 t, .slice A L.length c] w (FindP n t L w) := by
  obtain ⟨i0, hi0, hz0, hz1, hz2⟩ := info_parts info_rr
  have HC := Lib.hid (fun W => Check_any n (by unfold maxLen; omega) W)
  have HF := Lib.hid (fun W => Fold_any n (by omega) W)
  obtain ⟨F, hF⟩ : ∃ F : ByteArray, (⟨(foldB n.data.toList).toArray⟩ : ByteArray) = F := ⟨_, rfl⟩
  rw [hF] at HF
  have HS := Lib.hid (And.intro hT (And.intro hl (And.intro hl2 (And.intro hn (And.intro hd hF)))))
  obtain ⟨k0, hk0⟩ : ∃ k0, chkN n.data.toList = k0 := ⟨_, rfl⟩
  rw [hk0] at HC
  clear hT hl hn hd hF
  go_enter Tryz.func16, Tryz.ntmps16
  go_wp2_with (fail)
  obtain ⟨W1, hW1⟩ : ∃ W1, ((w.alloc (.cells #[.string n] 9)).alloc (.cells #[.int .u16 t] 30)).alloc (.cells #[.string ⟨#[]⟩, .int .u16 0, .int .u32 0, .slice none 0 0] 36) = W1 := ⟨_, rfl⟩
  rw [hW1]
  with_reducible refine (HC.out _).mono ?_
  rintro e w2 ⟨rfl, hb⟩
  have HB : RowKit.Hid (Below w.heap.size w w2 ∧ Blk w2 w.heap.size 9 #[.string n] ∧ Blk w2 (w.heap.size + 1) 30 #[.int .u16 t] ∧ Blk w2 (w.heap.size + 1 + 1) 36 #[.string ⟨#[]⟩, .int .u16 0, .int .u32 0, .slice none 0 0]) := Lib.hid (by
    have z1 : W1.heap.size = w.heap.size + 3 := by rw [← hW1]; simp
    have b01 : Below w.heap.size w W1 := by rw [← hW1]; exact (((Below.refl _ _).alloc (Nat.le_refl _) _).alloc (by simp) _).alloc (by simp; omega) _
    have k0 : Blk W1 w.heap.size 9 #[.string n] := by rw [← hW1]; exact ((Blk.new _ _ _).alloc _).alloc _
    have k1 : Blk W1 (w.heap.size + 1) 30 #[.int .u16 t] := by
      rw [← hW1]
      have h9 : Blk ((w.alloc (.cells #[.string n] 9)).alloc (.cells #[.int .u16 t] 30)) (w.heap.size + 1) 30 #[.int .u16 t] := heap_alloc2_new w _ _
      exact h9.alloc _
    have k2 : Blk W1 (w.heap.size + 1 + 1) 36 #[.string ⟨#[]⟩, .int .u16 0, .int .u32 0, .slice none 0 0] := by
      rw [← hW1]
      have := Blk.new ((w.alloc (.cells #[.string n] 9)).alloc (.cells #[.int .u16 t] 30)) 36 #[.string ⟨#[]⟩, .int .u16 0, .int .u32 0, .slice none 0 0]
      simpa using this
    exact ⟨b01.trans (hb.mono (by omega)), k0.below hb (by omega), k1.below hb (by omega), k2.below hb (by omega)⟩)
  have n0 := HB.out.2.1.cell 0
  have t0 := HB.out.2.2.1.cell 0
  have s0 := HB.out.2.2.2.cell 0
  have s1 := HB.out.2.2.2.cell 1
  have s2 := HB.out.2.2.2.cell 2
  have s3 := HB.out.2.2.2.cell 3
  have z0 := HB.out.2.2.2.frozen 0
  have z1 := HB.out.2.2.2.frozen 1
  have z2 := HB.out.2.2.2.frozen 2
  have z3 := HB.out.2.2.2.frozen 3
  clear hW1 hb HC
  by_cases hk : k0 = 0
  · subst hk
    go_wp2_with (fail)
    with_reducible refine (HF.out _).mono ?_
    rintro e w3 ⟨rfl, hb⟩
    have H3 := Lib.hid hb
    clear hb HF
    go_wp2_with (fail)
    obtain ⟨V, hV⟩ : ∃ V, w3.alloc (.cells #[.string F] 9) = V := ⟨_, rfl⟩
    rw [hV]
    obtain ⟨bf, hbf⟩ : ∃ bf, w3.heap.size = bf := ⟨_, rfl⟩
    rw [hbf]
    have HV : RowKit.Hid (Below w.heap.size w V ∧ Blk V w.heap.size 9 #[.string n] ∧ Blk V (w.heap.size + 1) 30 #[.int .u16 t] ∧ Blk V (w.heap.size + 1 + 1) 36 #[.string ⟨#[]⟩, .int .u16 0, .int .u32 0, .slice none 0 0] ∧ Blk V bf 9 #[.string F]) := Lib.hid (by
      have b3 : Below w2.heap.size w2 V := by rw [← hV]; exact H3.out.alloc H3.out.size _
      have h := HB.out
      refine ⟨h.1.trans (b3.mono h.1.size), h.2.1.below b3 h.2.1.lt, h.2.2.1.below b3 h.2.2.1.lt, h.2.2.2.below b3 h.2.2.2.lt, ?_⟩
      rw [← hV, ← hbf]
      exact Blk.new _ _ _)
    clear hV hbf H3 n0 t0 s0 s1 s2 s3 z0 z1 z2 z3 HB
    go_loopg [10, 12, 22] L.length (fun gg v10 v12 v22 wr => ∃ (k : Nat) (Al : Option Addr) (cl : Nat) (M : List RRec), v22 = .int .i64 (k : Int) ∧ v10 = .slice Al M.length cl ∧ Aside (gg + k = L.length) ∧ Aside (M = (L.take k).filter (nearR t n)) ∧ Aside (Below V.heap.size V wr) ∧ Aside (Sl wr 5 (.slice Al M.length cl) M.length (flatV RRec.vs M)) ∧ Aside (∀ g, (Value.slice Al M.length cl).ownBlock = some g → V.heap.size ≤ g))
    case atStart => exact ⟨0, none, 0, [], rfl, rfl, (by show _ = _; omega), (by show _ = _; rfl), Below.refl _ _, Sl.nil _ _, fun g hg => by simp [Value.ownBlock] at hg⟩
    case round =>
      obtain ⟨k, Al, cl, M, rfl, rfl, hg, hM, hb, hs, ho⟩ := hrel
      by_cases hlt : k < L.length
      · have hltI : (k : Int) < (L.length : Int) := by omega
        obtain ⟨x, hx⟩ : ∃ x, L[k]? = some x := ⟨_, List.getElem?_eq_getElem hlt⟩
        have hTr := (HS.out.1.below (HV.out.1.trans (hb.out.mono HV.out.1.size)))
        obtain ⟨b', off', rfl, hbl, d0, d1, d2, d3, d4⟩ := hTr.cells hx
        have hrd := HS.out.2.2.2.2.1 x (List.mem_of_getElem? hx)
        obtain ⟨W, hW⟩ : ∃ W, wr.alloc (.cells #[.string x.n, .int .u16 x.t, .int .u16 x.c, .int .u32 x.l, .string x.d] 33) = W := ⟨_, rfl⟩
        have hbW : Below V.heap.size V W := by rw [← hW]; exact hb.out.alloc hb.out.size _
        have HNE := Lib.hid (near_any (HV.out.2.2.1.below hbW HV.out.2.2.1.lt) (HV.out.2.1.below hbW HV.out.2.1.lt) (HV.out.2.2.2.2.below hbW HV.out.2.2.2.2.lt) HS.out.2.2.2.2.2.symm HS.out.2.2.2.1 x hrd.1)
        have hRR : Blk W wr.heap.size 33 #[.string x.n, .int .u16 x.t, .int .u16 x.c, .int .u32 x.l, .string x.d] := by rw [← hW]; exact Blk.new _ _ _
        have r0 := hRR.cell 0
        have r1 := hRR.cell 1
        have r2 := hRR.cell 2
        have r3 := hRR.cell 3
        have r4 := hRR.cell 4
        have HX := Lib.hid (And.intro hx (And.intro hlt (And.intro hbW hRR)))
        clear hx hlt hrd hTr hbW hRR
        have hsW : Sl W 5 (.slice Al M.length cl) M.length (flatV RRec.vs M) := by rw [← hW]; exact hs.out.alloc _
        have hMl : M.length ≤ 1000 := by
          have := List.length_filter_le (nearR t n) (L.take k)
          rw [← hM.out, List.length_take] at this
          have := hltI
          have := HS.out.2.2.1
          omega
        have HSW := Lib.hid hsW
        clear hsW
        go_wp2_with (fail)
        with_reducible refine HNE.out.mono ?_
        rintro e W2 ⟨rfl, hbn⟩
        have hbV : Below V.heap.size V W2 := HX.out.2.2.1.trans (hbn.mono HX.out.2.2.1.size)
        have hM2 : (L.take (k + 1)).filter (nearR t n) = M ++ (if nearR t n x = true then [x] else []) := by
          rw [List.take_add_one, HX.out.1, List.filter_append, ← hM.out]
          by_cases h : nearR t n x = true
          · simp [h]
          · simp [h]
        have hRR2 := HX.out.2.2.2.below hbn HX.out.2.2.2.lt
        have q0 := hRR2.cell 0
        have q1 := hRR2.cell 1
        have q2 := hRR2.cell 2
        have q3 := hRR2.cell 3
        have q4 := hRR2.cell 4
        have hs2 : Sl W2 5 (.slice Al M.length cl) M.length (flatV RRec.vs M) := HSW.out.below hbn HSW.out.lt
        have HSR := Lib.hid (src_rr (P := Tryz.prog) Tryz.underlying22 W2 33 x.n x.d x.t x.c x.l)
        have HY := Lib.hid (And.intro hbV (And.intro hM2 hs2))
        clear hbn hbV hM2 hRR2 hs2 r0 r1 r2 r3 r4 hW d0 d1 d2 d3 d4 hbl HNE HSW
        by_cases hq : nearR t n x = true
        · rw [hq]
          have HSL := Lib.hid (HY.out.2.2.alloc (.cells #[.string x.n, .int .u16 x.t, .int .u16 x.c, .int .u32 x.l, .string x.d] 33))
          go_wp2_with (at_builtin; go_must (refine wpList_append_sl _ rfl (.tmp 29) (.tmp 31) 22 22 rfl 33 i0 (.agg #[.string ⟨#[]⟩, .int .u16 0, .int .u16 0, .int .u32 0, .string ⟨#[]⟩]) 5 40 Tryz.underlying22 hi0 hz0 hz1 hz2 rfl (.slice Al M.length cl) M.length (flatV RRec.vs M) rfl HSL.out _ rfl 1 (flatV RRec.vs [x]) HSR.out (by unfold maxLen; omega) (by omega) ?_); intro v3 w9 hs3 hg3 hv3; obtain ⟨A3, c3, rfl, hc3, hm3⟩ := hs3.shape; have H3 := Lib.hid (And.intro hs3 (And.intro hg3 hv3)); clear hs3 hg3 hv3 hc3 hm3)
          go_roundg (L.length - (k + 1))
          case measure => have := hg.out; have := HX.out.2.1; omega
          case rel =>
            obtain ⟨hs3, hg3, hv3⟩ := H3.out
            have hl : (M ++ [x]).length = M.length + 1 := by simp
            have h2 := HY.out.2.1
            rw [if_pos hq] at h2
            have hbA : Below V.heap.size V (W2.alloc (.cells #[.string x.n, .int .u16 x.t, .int .u16 x.c, .int .u32 x.l, .string x.d] 33)) := HY.out.1.alloc HY.out.1.size _
            refine ⟨k + 1, A3, c3, M ++ [x], by go_num, by rw [hl], (show L.length - (k + 1) + (k + 1) = L.length by have := HX.out.2.1; omega), h2.symm, hbA.grown hg3 hbA.size (fun g hg => ho.out g hg), ?_, fun g hg => ?_⟩
            · show Sl w9 5 _ _ _
              rw [hl, flatV_append]
              exact hs3
            · rw [hl] at hg
              rcases hv3 with e | e
              · rw [e] at hg; exact ho.out g hg
              · rw [e] at hg; injection hg with hg; have := hbA.size; omega
        · have hq2 : nearR t n x = false := by simpa using hq
          rw [hq2]
          go_wp2_with (fail)
          go_roundg (L.length - (k + 1))
          case measure => have := hg.out; have := HX.out.2.1; omega
          case rel =>
            have h2 := HY.out.2.1
            rw [if_neg hq, List.append_nil] at h2
            exact ⟨k + 1, Al, cl, M, by go_num, rfl, (show L.length - (k + 1) + (k + 1) = L.length by have := HX.out.2.1; omega), h2.symm, HY.out.1, HY.out.2.2, ho.out⟩
      · have hltI : ¬ (k : Int) < (L.length : Int) := by omega
        have hM2 : M = L.filter (nearR t n) := by have := hM.out; rwa [List.take_of_length_le (by omega)] at this
        have hMr : ∀ r ∈ M, r ∈ L := fun r hr => by rw [hM2] at hr; exact (List.mem_filter.1 hr).1
        have hMl : M.length ≤ L.length := by rw [hM2]; exact List.length_filter_le _ _
        have HM := Lib.hid (And.intro hM2 (And.intro hMr hMl))
        clear hM hM2 hMr hMl
        go_wp2_with (fail)
        have HRA := Lib.hid (right_any Al M.length cl wr)
        with_reducible refine HRA.out.mono ?_
        rintro e W4 ⟨rfl, hW4⟩
        have hb4 : Below wr.heap.size wr W4 := by rw [hW4]; exact (Below.refl _ _).alloc (Nat.le_refl _) _
        have hB4 : Blk W4 wr.heap.size 22 #[.slice Al M.length cl] := by rw [hW4]; exact Blk.new _ _ _
        have hT4 : RTab W4 Al M := (rtab_of_sl hs.out).below hb4
        have hx4 : ∀ e ∈ M, e.n.size ≤ maxLen ∧ e.d.size ≤ 140737488355328 := fun e he => by
          have h := HS.out.2.2.2.2.1 e (HM.out.2.1 e he)
          unfold maxLen
          omega
        have hMl := HM.out.2.2
        have hSK := right1_K wr.heap.size cl Al M (fun i => i < W4.heap.size) W4 hB4 hT4 hB4.lt (fun hp a ha => by
          obtain ⟨b9, off9, h9, h10, _⟩ := hT4 hp
          rw [ha] at h9
          injection h9 with h9
          rw [h9]
          exact h10) (by omega) hx4
        obtain ⟨R, hR⟩ : ∃ R, rightL M = R := ⟨_, rfl⟩
        rw [hR] at hSK
        have hRl : R.length ≤ M.length := by rw [← hR]; exact List.length_filter_le _ _
        have hRr : ∀ r ∈ R, r ∈ L := fun r hr => HM.out.2.1 r (by rw [← hR] at hr; exact (List.mem_filter.1 hr).1)
        have HCO := Lib.hid (collectR_any R W4 hSK (fun i hi => hi) (fun args w => by rfl) (by omega))
        have h4 : Below V.heap.size V W4 := hb.out.trans (hb4.mono hb.out.size)
        have HR := Lib.hid (And.intro h4 (And.intro hR (And.intro hRr hRl)))
        clear hW4 hb4 hB4 hT4 hx4 hSK h4 hR hRr hRl HRA
        go_wp2_with (fail)
        with_reducible refine HCO.out.mono ?_
        rintro e w5 ⟨A5, c5, rfl, hs5, ho5, hb5⟩
        have h5 : Below V.heap.size V w5 := HR.out.1.trans (hb5.mono HR.out.1.size)
        have H5 := Lib.hid (And.intro h5 (And.intro hs5 (HV.out.1.trans (h5.mono HV.out.1.size))))
        have n0 := (HV.out.2.1.below h5 HV.out.2.1.lt).cell 0
        have t0 := (HV.out.2.2.1.below h5 HV.out.2.2.1.lt).cell 0
        have S5 := Lib.hid (HV.out.2.2.2.1.below h5 HV.out.2.2.2.1.lt)
        have s0 := S5.out.cell 0
        have s1 := S5.out.cell 1
        have s2 := S5.out.cell 2
        have s3 := S5.out.cell 3
        have z0 := S5.out.frozen 0
        have z1 := S5.out.frozen 1
        have z2 := S5.out.frozen 2
        have z3 := S5.out.frozen 3
        clear h5 hs5 ho5 hb5 HCO
        by_cases hR0 : R = []
        · have hRl : R.length = 0 := by rw [hR0]; rfl
          have hRlI : (R.length : Int) = 0 := by omega
          go_wp2_with (fail)
          obtain ⟨hN1, hN2⟩ := no_set S5.out H5.out.2.2 (by omega)
          obtain ⟨W9, hW9⟩ : ∃ W9, (((w5.setCell ⟨w.heap.size + 1 + 1, 0, none⟩ (.string ⟨#[]⟩)).setCell ⟨w.heap.size + 1 + 1, 1, none⟩ (.int .u16 0)).setCell ⟨w.heap.size + 1 + 1, 2, none⟩ (.int .u32 0)).setCell ⟨w.heap.size + 1 + 1, 3, none⟩ (.slice none 0 0) = W9 := ⟨_, rfl⟩
          rw [hW9] at hN1 hN2
          rw [hW9]
          clear s0 s1 s2 s3
          have e0 := hN1.cell 0
          have e1 := hN1.cell 1
          have e2 := hN1.cell 2
          have e3 := hN1.cell 3
          exact bodyPost_ret (v := .tuple #[.agg #[.string ⟨#[]⟩, .int .u16 0, .int .u32 0, .slice none 0 0], .int .i64 3]) (by simp [results, Tryz.results16, go_sem, e0, e1, e2, e3]) rfl (.inr (.inl ⟨hk0, by rw [← HM.out.1, HR.out.2.1, hR0], rfl, hN2⟩))
        · have hRp : 0 < R.length := by cases R with
            | nil => exact absurd rfl hR0
            | cons _ _ => simp
          have hRlI : ¬ (R.length : Int) = 0 := by omega
          have HBU := Lib.hid (build_any hm n t A5 c5 R w5 (rtab_of_sl H5.out.2.1) (by omega) (by have := HS.out.2.1; have := HR.out.2.2.2; omega) (by have := HR.out.2.2.2; omega) (fun r hr => (HS.out.2.2.2.2.1 r (HR.out.2.2.1 r hr)).2))
          go_wp2_with (fail)
          with_reducible refine HBU.out.mono ?_
          rintro e w6 ⟨P, ds, Ad, cd, hP1, hP2, hds, rfl, hS6, ho6, hb6⟩
          have HDS := Lib.hid hds
          clear hds
          have hbs : w.heap.size + 1 + 1 < w5.heap.size := S5.out.lt
          have S6 := S5.out.below hb6 S5.out.lt
          have H6 := Lib.hid (And.intro hS6 (And.intro (H5.out.2.2.trans (hb6.mono H5.out.2.2.size)) S6))
          clear n0 t0 s0 s1 s2 s3 z0 z1 z2 z3 hb6 hS6
          have s0 := S6.cell 0
          have s1 := S6.cell 1
          have s2 := S6.cell 2
          have s3 := S6.cell 3
          have z0 := S6.frozen 0
          have z1 := S6.frozen 1
          have z2 := S6.frozen 2
          have z3 := S6.frozen 3
          clear S6
          unfold setV
          obtain ⟨lm, hlm⟩ : ∃ lm, minL R = lm := ⟨_, rfl⟩
          rw [hlm]
          go_wp2_with (fail)
          obtain ⟨W9, hW9⟩ : ∃ W9, (((w6.setCell ⟨w.heap.size + 1 + 1, 0, none⟩ (.string n)).setCell ⟨w.heap.size + 1 + 1, 1, none⟩ (.int .u16 t)).setCell ⟨w.heap.size + 1 + 1, 2, none⟩ (.int .u32 lm)).setCell ⟨w.heap.size + 1 + 1, 3, none⟩ (.slice Ad ds.length cd) = W9 := ⟨_, rfl⟩
          rw [hW9]
          have hN1 : Blk W9 (w.heap.size + 1 + 1) 36 #[.string n, .int .u16 t, .int .u32 lm, .slice Ad ds.length cd] := by
            rw [← hW9]
            have h := (((H6.out.2.2.set_ 0 (.string n)).set_ 1 (.int .u16 t)).set_ 2 (.int .u32 lm)).set_ 3 (.slice Ad ds.length cd)
            simpa using h
          have hfar : ∀ h, (Value.slice Ad ds.length cd).ownBlock = some h → h ≠ w.heap.size + 1 + 1 := fun h hh => by have := ho6 h hh; omega
          have hS9 : Sl W9 1 (.slice Ad ds.length cd) ds.length (ds.map Value.string) := by
            rw [← hW9]
            exact (((H6.out.1.far (p := ⟨w.heap.size + 1 + 1, 0, none⟩) hfar _).far (p := ⟨w.heap.size + 1 + 1, 1, none⟩) hfar _).far (p := ⟨w.heap.size + 1 + 1, 2, none⟩) hfar _).far (p := ⟨w.heap.size + 1 + 1, 3, none⟩) hfar _
          have hB9 : Below w.heap.size w W9 := by
            rw [← hW9]
            have hle : w.heap.size ≤ w.heap.size + 1 + 1 := by omega
            exact (((H6.out.2.1.setCell (p := ⟨w.heap.size + 1 + 1, 0, none⟩) hle _).setCell (p := ⟨w.heap.size + 1 + 1, 1, none⟩) hle _).setCell (p := ⟨w.heap.size + 1 + 1, 2, none⟩) hle _).setCell (p := ⟨w.heap.size + 1 + 1, 3, none⟩) hle _
          clear s0 s1 s2 s3 z0 z1 z2 z3
          have e0 := hN1.cell 0
          have e1 := hN1.cell 1
          have e2 := hN1.cell 2
          have e3 := hN1.cell 3
          refine bodyPost_ret (v := .tuple #[.agg #[.string n, .int .u16 t, .int .u32 lm, .slice Ad ds.length cd], .int .i64 0]) (by simp [results, Tryz.results16, go_sem, e0, e1, e2, e3]) rfl (.inr (.inr ⟨hk0, ?_, ?_⟩))
          · rw [← HM.out.1, HR.out.2.1]; exact hR0
          · rw [← HM.out.1, HR.out.2.1]
            exact ⟨P, ds, Ad, cd, hP1, hP2, HDS.out, by rw [← hlm]; rfl, hS9, fun h hh => by have := ho6 h hh; omega, hB9⟩
  · go_wp2_with (fail)
    obtain ⟨hN1, hN2⟩ := no_set HB.out.2.2.2 HB.out.1 (by omega)
    obtain ⟨W9, hW9⟩ : ∃ W9, (((w2.setCell ⟨w.heap.size + 1 + 1, 0, none⟩ (.string ⟨#[]⟩)).setCell ⟨w.heap.size + 1 + 1, 1, none⟩ (.int .u16 0)).setCell ⟨w.heap.size + 1 + 1, 2, none⟩ (.int .u32 0)).setCell ⟨w.heap.size + 1 + 1, 3, none⟩ (.slice none 0 0) = W9 := ⟨_, rfl⟩
    rw [hW9] at hN1 hN2
    rw [hW9]
    clear s0 s1 s2 s3
    have e0 := hN1.cell 0
    have e1 := hN1.cell 1
    have e2 := hN1.cell 2
    have e3 := hN1.cell 3
    exact bodyPost_ret (v := .tuple #[.agg #[.string ⟨#[]⟩, .int .u16 0, .int .u32 0, .slice none 0 0], .int .i64 3]) (by simp [results, Tryz.results16, go_sem, e0, e1, e2, e3]) rfl (.inl ⟨by rw [hk0]; exact hk, rfl, hN2⟩)
end Go.Proofs.YthnngndnpigjbaaGreat
