/- The walk of sets.Find's own question: is this record of that name and that type? Conditions: none. The walks of sets.right and its iterator. Conditions: none. -/
import Derived.Test.YtfipacfompihkaaBuildM
import Derived.Test.YtfipacfompihkaaSame
import Derived.Test.YtfipacfompihkaaQLow
import Derived.Test.YtfipacfompihkaaRet
import Derived.Test.YtfipacfompihkaaRrOk
import Derived.Test.YtfipacfompihkaaCollS
import Derived.Test.YtfipacfompihkaaRangeK
import Derived.Sort.LoopGhostIn
import Derived.OwnWalkIn
namespace Go.Proofs.Ytfipacfompihkaa
open Go.RowKit Go.Lib

/-- Of that type, and of a name that differs in letters' case alone. -/
def nearR (t : Int) (n : ByteArray) (r : RRec) : Bool := decide (r.t = t) && (decide (r.n.size = n.size) && decide (foldB r.n.data.toList = foldB n.data.toList))
theorem beq_ba (G F : ByteArray) : (G.toList == F.toList) = decide (G = F) := by
  rw [ByteArray.toList_eq, ByteArray.toList_eq]
  by_cases h : G = F
  · subst h; simp
  · have h2 : ¬ G.data.toList = F.data.toList := fun e => h (by have h3 := Array.toList_inj.1 e; cases G; cases F; dsimp only at h3; rw [h3])
    rw [decide_eq_false h]
    exact beq_false_of_ne h2
set_option maxRecDepth 100000 in
set_option maxHeartbeats 4000000 in
theorem near_any {w : World} {ty : TypeId} {bt bn bf : Nat} {t : Int} {n F : ByteArray} (ht : Blk w bt ty #[.int .u16 t]) (hn : Blk w bn 9 #[.string n]) (hf : Blk w bf 9 #[.string F]) (hF : F = ⟨(foldB n.data.toList).toArray⟩) (hns : n.size ≤ 1000000) (r : RRec) (hr : r.n.size ≤ 1000000) :
    Calls Try.prog 62 #[.agg #[.string r.n, .int .u16 r.t, .int .u16 r.c, .int .u32 r.l, .string r.d], .pointer (some ⟨bt, 0, none⟩), .pointer (some ⟨bn, 0, none⟩), .pointer (some ⟨bf, 0, none⟩)] w fun e w' => e = .returned (.bool (nearR t n r)) ∧ Below w.heap.size w w' := by
  have HF := Lib.hid (fun W => Fold_any r.n (by omega) W)
  obtain ⟨G, hG⟩ : ∃ G : ByteArray, (⟨(foldB r.n.data.toList).toArray⟩ : ByteArray) = G := ⟨_, rfl⟩
  rw [hG] at HF
  have hFG : (decide (foldB r.n.data.toList = foldB n.data.toList)) = decide (G = F) := by
    rw [← hG, hF]
    by_cases h : foldB r.n.data.toList = foldB n.data.toList
    · simp [h]
    · have : ¬ (⟨(foldB r.n.data.toList).toArray⟩ : ByteArray) = ⟨(foldB n.data.toList).toArray⟩ := fun e => by
        injection e with e
        exact h (by simpa using congrArg Array.toList e)
      simp [h, this]
  unfold nearR
  rw [hFG]
  obtain ⟨rn, rt, rc, rl, rd⟩ := r
  dsimp only at *
  clear hF hG hFG
  obtain ⟨W0, hW0⟩ : ∃ W0, w.alloc (.cells #[.string rn, .int .u16 rt, .int .u16 rc, .int .u32 rl, .string rd] 77) = W0 := ⟨_, rfl⟩
  have hR : Blk W0 w.heap.size 77 #[.string rn, .int .u16 rt, .int .u16 rc, .int .u32 rl, .string rd] := by rw [← hW0]; exact Blk.new _ _ _
  have hbw : Below w.heap.size w W0 := by rw [← hW0]; exact (Below.refl _ _).alloc (Nat.le_refl _) _
  have b0 : ∀ p : BelowOf W0, p.X.cell? ⟨bt, 0, none⟩ = some (.int .u16 t) := fun p => ((ht.below hbw ht.lt).low p).cell 0
  have b1 : ∀ p : BelowOf W0, p.X.cell? ⟨bn, 0, none⟩ = some (.string n) := fun p => ((hn.below hbw hn.lt).low p).cell 0
  have b2 : ∀ p : BelowOf W0, p.X.cell? ⟨bf, 0, none⟩ = some (.string F) := fun p => ((hf.below hbw hf.lt).low p).cell 0
  have r0 : ∀ p : BelowOf W0, p.X.cell? ⟨w.heap.size, 0, none⟩ = some (.string rn) := fun p => (hR.low p).cell 0
  have r1 : ∀ p : BelowOf W0, p.X.cell? ⟨w.heap.size, 1, none⟩ = some (.int .u16 rt) := fun p => (hR.low p).cell 1
  have HB := Lib.hid hbw
  clear ht hn hf hR hbw
  by_cases h1 : rt = t
  · subst h1
    by_cases h2 : rn.size = n.size
    · rw [decide_eq_true h2]
      have h2I : (rn.size : Int) = (n.size : Int) := by omega
      go_enter Try.func62, Try.ntmps62
      go_wp2_with (fail)
      obtain ⟨rb, hrb⟩ : ∃ rb, w.heap.size = rb := ⟨_, rfl⟩
      rw [hrb] at r0 r1
      rw [hrb]
      clear hW0 hrb
      refine wp_region_low (by kernel_rfl) (by kernel_rfl) ?_
      repeat (refine low_step (fun K hK => ?_); go_simp; first | (refine hK _ ?_; clear hK K) | (apply Exists.intro; refine ⟨fun _ => ?_, hK _ ?_⟩; (first | (go_at_call 49; exact calls_low (HF.out _))); clear hK K))
      refine low_nil ?_
      rintro ⟨W5, hb5⟩
      dsimp only
      clear b0 b1 b2 r0 r1
      go_wp2_with (fail)
      go_ret
      exact ⟨ret_b (by first | (simp; done) | (simp; exact beq_ba _ _)), HB.out.trans (hb5.mono HB.out.size)⟩
    · rw [decide_eq_false h2]
      have h2I : ¬ (rn.size : Int) = (n.size : Int) := by omega
      go_enter Try.func62, Try.ntmps62
      go_wp2_with (fail)
      obtain ⟨rb, hrb⟩ : ∃ rb, w.heap.size = rb := ⟨_, rfl⟩
      rw [hrb] at r0 r1
      rw [hrb]
      clear hW0 hrb
      refine wp_region_low (by kernel_rfl) (by kernel_rfl) ?_
      repeat (refine low_step (fun K hK => ?_); go_simp; first | (refine hK _ ?_; clear hK K) | (apply Exists.intro; refine ⟨fun _ => ?_, hK _ ?_⟩; (first | (go_at_call 49; exact calls_low (HF.out _))); clear hK K))
      refine low_nil ?_
      rintro ⟨W5, hb5⟩
      dsimp only
      clear b0 b1 b2 r0 r1
      go_wp2_with (fail)
      go_ret
      exact ⟨ret_b (by simp), HB.out.trans (hb5.mono HB.out.size)⟩
  · rw [decide_eq_false h1]
    go_enter Try.func62, Try.ntmps62
    go_wp2_with (fail)
    obtain ⟨rb, hrb⟩ : ∃ rb, w.heap.size = rb := ⟨_, rfl⟩
    rw [hrb] at r0 r1
    rw [hrb]
    clear hW0 hrb
    refine wp_region_low (by kernel_rfl) (by kernel_rfl) ?_
    repeat (refine low_step (fun K hK => ?_); go_simp; first | (refine hK _ ?_; clear hK K) | (apply Exists.intro; refine ⟨fun _ => ?_, hK _ ?_⟩; (first | (go_at_call 49; exact calls_low (HF.out _))); clear hK K))
    refine low_nil ?_
    rintro ⟨W5, hb5⟩
    dsimp only
    clear b0 b1 b2 r0 r1
    go_wp2_with (fail)
    go_ret
    exact ⟨ret_b (by simp), HB.out.trans (hb5.mono HB.out.size)⟩
end Go.Proofs.Ytfipacfompihkaa

namespace Go.Proofs.Ytfipacfompihkaa
open Go.RowKit Go.Lib Go.Shelf
attribute [local go_sem] Oper.semAt_some

def rightL (xs : List RRec) : List RRec := xs.filter rightB
theorem right_step {xs : List RRec} {j : Nat} {r : RRec} (h : xs[j]? = some r) : rightL (xs.take (j + 1)) = rightL (xs.take j) ++ (if rightB r = true then [r] else []) := by
  unfold rightL
  rw [List.take_add_one, h]
  by_cases hr : rightB r = true <;> simp [hr]
theorem right_pre (xs : List RRec) (j : Nat) : rightL (xs.take j) <+: rightL xs := (List.take_prefix j xs).filter _
theorem KeepS.cellR {S : Nat → Prop} {U V : World} (h : KeepS S U V) {a : Addr} (ha : a.block < U.heap.size) (hs : S a.block) : V.cell? a = U.cell? a := World.cell?_of_block (h.same _ ha hs)
set_option maxRecDepth 100000 in
set_option maxHeartbeats 4000000 in
theorem right1_K (Bl c : Nat) (A : Option Addr) (xs : List RRec) (K : Nat → Prop) (w : World) (hB : Blk w Bl 41 #[.slice A xs.length c]) (hT : RTab w A xs) (hKB : K Bl) (hKA : 0 < xs.length → ∀ a, A = some a → K a.block) (hx : xs.length ≤ 1000000) (hz : ∀ e ∈ xs, e.n.size ≤ maxLen ∧ e.d.size ≤ 140737488355328) :
    SeqK Try.prog 87 #[.pointer (some ⟨Bl, 0, none⟩)] (fun r : RRec => #[r.val]) K (rightL xs) w := by
  intro m l J Jx W hW hJ hJx hY h0
  obtain ⟨n, hn⟩ : ∃ n : Nat, 8 ≤ n := ⟨8, by omega⟩
  refine callsIn_wide.2 ((callsIn_wide (n := n)).1 ?_)
  have h1n : 1 ≤ n := by omega
  have KW := Lib.hid (KeepS.of_below hW : KeepS K w W)
  have c1 : W.cell? ⟨Bl, 0, none⟩ = some (.slice A xs.length c) := (KW.out.cellR (a := ⟨Bl, 0, none⟩) hB.lt hKB).trans (hB.cell 0)
  have hlI : (xs.length : Int) ≤ 1000000 := by omega
  have HS := Lib.hid (fun (r : RRec) (hr : r.n.size ≤ maxLen ∧ r.d.size ≤ 140737488355328) W' => (callsIn_wide (n := n - 1)).2 (recCheck_any r hr.1 hr.2 W'))
  have HJ := Lib.hid (And.intro hJ (And.intro hJx hY))
  have H0 := Lib.hid h0
  have HT := Lib.hid (And.intro hT (And.intro hKA hz))
  have HB := Lib.hid (And.intro hB hKB)
  clear hW hJ hJx hY h0 hT hKA hz hB hKB hx
  refine callsIn_of_wp Try.func87 rfl trivial ?_ rfl
  simp only [Try.ntmps87, List.size_toArray, List.length_cons, List.length_nil, Nat.reduceAdd, Nat.reduceSub, Array.replicate_succ, Array.replicate_zero, List.push_toArray, List.append_toArray, List.nil_append, List.cons_append]
  gi_wp2_with (fail)
  gi_loopg [7] (xs.length + 1) (fun g2 v7 ws => ∃ j : Nat, v7 = .int .i64 (j : Int) ∧ Aside (g2 + j = xs.length + 1) ∧ j ≤ xs.length ∧ Aside (J (rightL (xs.take j)) ws) ∧ Aside (KeepS K w ws))
  case atStart => exact ⟨0, rfl, rfl, by omega, H0.out, KW.out⟩
  case round =>
    obtain ⟨j, rfl, hg2, hjl, hjj, hkk⟩ := hrel
    by_cases hlt2 : j < xs.length
    · obtain ⟨⟨rn, rt, rc, rl, rd⟩, hr⟩ : ∃ r, xs[j]? = some r := ⟨_, List.getElem?_eq_getElem hlt2⟩
      have hrm := List.mem_of_getElem? hr
      have hlt2I : (j : Int) < (xs.length : Int) := by omega
      obtain ⟨b, off, rfl, hbw, d0, d1, d2, d3, d4⟩ := HT.out.1.cells hr
      have hkb : K b := HT.out.2.1 (by omega) _ rfl
      have hsz := hkk.out.size
      have hcell : ∀ k u, w.cell? ⟨b, k, none⟩ = some u → wr.cell? ⟨b, k, none⟩ = some u := fun k u hu => (hkk.out.cellR (a := ⟨b, k, none⟩) hbw hkb).trans hu
      have e0 : wr.cell? ⟨b, off + j * 5, none⟩ = some (.string rn) := hcell _ _ d0
      have e1 : wr.cell? ⟨b, off + j * 5 + 1, none⟩ = some (.int .u16 rt) := hcell _ _ d1
      have e2 : wr.cell? ⟨b, off + j * 5 + 2, none⟩ = some (.int .u16 rc) := hcell _ _ d2
      have e3 : wr.cell? ⟨b, off + j * 5 + 3, none⟩ = some (.int .u32 rl) := hcell _ _ d3
      have e4 : wr.cell? ⟨b, off + j * 5 + 4, none⟩ = some (.string rd) := hcell _ _ d4
      have hbs : b < wr.heap.size := by omega
      have HC := Lib.hid (HS.out ⟨rn, rt, rc, rl, rd⟩ (HT.out.2.2 _ hrm))
      dsimp only [RRec.val] at HC
      have HP := Lib.hid (right_step hr)
      have HQ := Lib.hid (right_pre xs (j + 1))
      clear hcell d0 d1 d2 d3 d4 hr hrm hkb hbw hsz hlt2 c1
      by_cases hc1 : rc = 1
      case neg =>
        have q1 : (rc != 1) = true := by simp [hc1]
        have hno : rightB ⟨rn, rt, rc, rl, rd⟩ = false := by unfold rightB; simp [hc1]
        rw [hno] at HP
        clear hno hc1 HC HQ
        gi_wp2_with (fail)
        refine ⟨trivial, ?_⟩
        gi_wp2_with (fail)
        have hb3 : Below wr.heap.size wr (wr.alloc (.cells #[.string rn, .int .u16 rt, .int .u16 rc, .int .u32 rl, .string rd] 77)) := (Below.refl _ _).alloc (Nat.le_refl _) _
        gi_roundg (xs.length - j)
        case measure => have := hg2.out; omega
        case rel =>
          refine ⟨j + 1, rfl, (by show _ = _; omega), by omega, ?_, hkk.out.trans (.of_below hb3)⟩
          show J _ _
          rw [show rightL (xs.take (j + 1)) = rightL (xs.take j) from HP.out.trans (by simp)]
          exact HJ.out.1 _ _ _ hjj.out hb3
      subst hc1
      cases hst : chkR ⟨rn, rt, 1, rl, rd⟩ with
      | false =>
        rw [codeR_no hst] at HC
        have hno : rightB ⟨rn, rt, 1, rl, rd⟩ = false := by unfold rightB; rw [hst]; simp
        rw [hno] at HP
        clear hst hno HQ
        gi_wp2_with (refine ⟨trivial, ?_⟩; gi_at_call 80; refine (HC.out _).mono ?_; rintro e w2 ⟨rfl, hb2⟩)
        have hb3 : Below wr.heap.size wr w2 := ((Below.refl _ _).alloc (Nat.le_refl _) _).trans (hb2.mono (by simp))
        gi_roundg (xs.length - j)
        case measure => have := hg2.out; omega
        case rel =>
          refine ⟨j + 1, rfl, (by show _ = _; omega), by omega, ?_, hkk.out.trans (.of_below hb3)⟩
          show J _ _
          rw [show rightL (xs.take (j + 1)) = rightL (xs.take j) from HP.out.trans (by simp)]
          exact HJ.out.1 _ _ _ hjj.out hb3
      | true =>
        rw [codeR_yes hst] at HC
        have hyes : rightB ⟨rn, rt, 1, rl, rd⟩ = true := by unfold rightB; rw [hst]; simp
        rw [hyes] at HP
        have hp1 : rightL (xs.take (j + 1)) = rightL (xs.take j) ++ [⟨rn, rt, 1, rl, rd⟩] := HP.out.trans (by simp)
        have HP2 := Lib.hid (And.intro hp1 (show rightL (xs.take j) ++ [⟨rn, rt, 1, rl, rd⟩] <+: rightL xs from hp1 ▸ HQ.out))
        clear hst hyes HP HQ hp1
        gi_wp2_with (refine ⟨trivial, ?_⟩; gi_at_call 80; refine (HC.out _).mono ?_; rintro e w2 ⟨rfl, hb2⟩; have hb3 : Below wr.heap.size wr w2 := ((Below.refl _ _).alloc (Nat.le_refl _) _).trans (hb2.mono (by simp)); have hX := (Blk.new wr 77 #[.string rn, .int .u16 rt, .int .u16 1, .int .u32 rl, .string rd]).below hb2 (by simp); have x0 := hX.cell 0; have x1 := hX.cell 1; have x2 := hX.cell 2; have x3 := hX.cell 3; have x4 := hX.cell 4; obtain ⟨fn, tmps, assign, body, hyl, hR⟩ := yield_deep (m := n - 1) (HJ.out.2.2 _ _ w2 (HJ.out.1 _ _ _ hjj.out hb3) HP2.out.2); dsimp only [RRec.val] at hyl; have HX := Lib.hid (And.intro hb3 hR); clear hX hb2 hR hb3 HC)
        refine HX.out.2.mono ?_
        rintro e W3 (⟨rfl, h1, h2⟩ | ⟨rfl, h1⟩)
        · have H1 := Lib.hid (And.intro h1 h2)
          clear h1 h2 x0 x1 x2 x3 x4
          gi_wp2_with (fail)
          gi_roundg (xs.length - j)
          case measure => have := hg2.out; omega
          case rel =>
            refine ⟨j + 1, rfl, (by show _ = _; omega), by omega, ?_, (hkk.out.trans (.of_below HX.out.1)).trans H1.out.2⟩
            show J _ _
            rw [HP2.out.1]
            exact H1.out.1
        · have H1 := Lib.hid h1
          clear h1 x0 x1 x2 x3 x4
          gi_wp2_with (fail)
          refine bodyPost_ret (results_none rfl _ _ _) rfl ?_
          exact ⟨⟨_, rfl⟩, .inr ⟨_, HP2.out.2, H1.out⟩⟩
    · have hlt2I : ¬ (j : Int) < (xs.length : Int) := by omega
      have HJD := Lib.hid (show J (rightL xs) wr from by
        have h1 := hjj.out
        rw [show j = xs.length by omega, List.take_length] at h1
        exact h1)
      clear hlt2 hjj
      gi_wp2_with (fail)
      refine bodyPost_end (results_none rfl _ _ _) rfl ?_
      exact ⟨⟨_, rfl⟩, .inl HJD.out⟩
theorem right_any (A : Option Addr) (n c : Nat) (w : World) :
    Calls Try.prog 56 #[.slice A n c] w fun e w' => e = .returned (.func (.func 87) #[] #[.pointer (some ⟨w.heap.size, 0, none⟩)]) ∧ w' = w.alloc (.cells #[.slice A n c] 41) := by
  go_enter Try.func56, Try.ntmps56
  go_wp2
  go_ret
  exact ⟨rfl, rfl⟩
end Go.Proofs.Ytfipacfompihkaa
