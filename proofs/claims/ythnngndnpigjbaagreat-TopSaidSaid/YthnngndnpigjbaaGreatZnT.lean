/- The walk of zone.take. Conditions: none. -/
import Derived.Test.YthnngndnpigjbaaGreatZnL
import Derived.Test.YthnngndnpigjbaaGreatSetsM
import Derived.Test.YthnngndnpigjbaaGreatQLow
import Derived.Test.YthnngndnpigjbaaGreatRegC
import Derived.Deep.DeepCutAuto
import Derived.Sort.CutIn
namespace Go.Proofs.YthnngndnpigjbaaGreat
open Go.RowKit Go.Lib
attribute [local go_sem] Oper.semAt_some

set_option maxRecDepth 100000 in
set_option maxHeartbeats 4000000 in
theorem take_any (vb sb nb : Nat) (z : ByteArray) (A : Option Addr) (len c m : Nat) (pre : List RRec) (r : RRec) (w : World) (h : LkS w vb sb nb z A len c m pre) (hr : (r.n.size ≤ 1000 ∧ r.d.size ≤ 5000) ∧ r.ok) (hz : z.size ≤ 1000) (hm : m + 1 < maxLen) (hpre : pre.length ≤ 1000) :
    Calls Tryz.prog 32 #[.pointer (some ⟨vb, 0, none⟩), r.val] w (TakP w vb sb nb z A len c m pre r) := by
  obtain ⟨rn, rt, rc, rl, rd⟩ := r
  dsimp only [RRec.val]
  have HH := Lib.hid (And.intro h (And.intro hr (And.intro hz (And.intro hm hpre))))
  clear h hr hz hm hpre
  go_enter Tryz.func32, Tryz.ntmps32
  by_cases hc : rc = 1
  · by_cases ht : rt = 41
    · subst hc
      subst ht
      have e2 : ((41 : Int) == 41) = true := rfl
      have e1 : ((1 : Int) != 1) = false := by simp
      go_wp2_with (fail)
      go_ret
      have hn : takeB z.data.toList pre ⟨rn, 41, 1, rl, rd⟩ = false := by simp [takeB]
      exact ⟨by rw [hn]; rfl, (fun e => by rw [hn] at e; cases e), KeepK.of_below ((Below.refl _ _).alloc (Nat.le_refl _) _) fun i h => h.1⟩
    · by_cases hl : rl = 0
      · subst hc
        have e2 : (rt == 41) = false := by simp [ht]
        have e1 : ((1 : Int) != 1) = false := by simp
        subst hl
        have e3 : ((0 : Int) == 0) = true := rfl
        go_wp2_with (fail)
        go_ret
        have hn : takeB z.data.toList pre ⟨rn, rt, 1, 0, rd⟩ = false := by simp [takeB]
        exact ⟨by rw [hn]; rfl, (fun e => by rw [hn] at e; cases e), KeepK.of_below ((Below.refl _ _).alloc (Nat.le_refl _) _) fun i h => h.1⟩
      · have e1 : (rc == 1) = true := by simp [hc]
        have e2 : (rt == 41) = false := by simp [ht]
        have e3 : (rl == 0) = false := by simp [hl]
        have e4 : (rc != 1) = false := by simp [hc]
        subst hc
        go_wp2_with (fail)
        obtain ⟨w1, hw1⟩ : ∃ w1, w.alloc (.cells #[.string rn, .int .u16 rt, .int .u16 1, .int .u32 rl, .string rd] 33) = w1 := ⟨_, rfl⟩
        have hb1 : Below w.heap.size w w1 := by rw [← hw1]; exact (Below.refl _ _).alloc (Nat.le_refl _) _
        have hx1 : Blk w1 w.heap.size 33 #[.string rn, .int .u16 rt, .int .u16 1, .int .u32 rl, .string rd] := by rw [← hw1]; exact Blk.new _ _ _
        rw [hw1]
        clear hw1
        have hv1 : Blk w1 vb 59 #[.string z, .slice A len c, .map (some sb), .map (some nb)] := HH.out.1.bx.below hb1 HH.out.1.bx.lt
        have c0 : ∀ p : BelowOf w1, p.X.cell? ⟨w.heap.size, 0, none⟩ = some (.string rn) := fun p => (Blk.low hx1 p).cell 0
        have c1 : ∀ p : BelowOf w1, p.X.cell? ⟨w.heap.size, 1, none⟩ = some (.int .u16 rt) := fun p => (Blk.low hx1 p).cell 1
        have c2 : ∀ p : BelowOf w1, p.X.cell? ⟨w.heap.size, 2, none⟩ = some (.int .u16 1) := fun p => (Blk.low hx1 p).cell 2
        have c3 : ∀ p : BelowOf w1, p.X.cell? ⟨w.heap.size, 3, none⟩ = some (.int .u32 rl) := fun p => (Blk.low hx1 p).cell 3
        have c4 : ∀ p : BelowOf w1, p.X.cell? ⟨w.heap.size, 4, none⟩ = some (.string rd) := fun p => (Blk.low hx1 p).cell 4
        have v0 : ∀ p : BelowOf w1, p.X.cell? ⟨vb, 0, none⟩ = some (.string z) := fun p => (Blk.low hv1 p).cell 0
        have H1 := Lib.hid (And.intro hb1 (And.intro hx1 hv1))
        clear hb1 hx1 hv1
        have HCK := Lib.hid (fun W => recCheck_any ⟨rn, rt, 1, rl, rd⟩ (by have := HH.out.2.1.1.1; dsimp only at *; unfold maxLen; omega) (by have := HH.out.2.1.1.2; dsimp only at *; omega) W)
        have HWI := Lib.hid (fun W => Within_any rn z (by have := HH.out.2.1.1.1; unfold maxLen; omega) (by have := HH.out.2.2.1; unfold maxLen; omega) W)
        dsimp only [RRec.val] at HCK
        by_cases hk : chkR ⟨rn, rt, 1, rl, rd⟩ = true
        · have hk0 := codeR_yes hk
          rw [hk0] at HCK
          refine wp_region_low (by kernel_rfl) (by kernel_rfl) ?_
          repeat (refine low_step (fun K hK => ?_); go_simp; first | (refine hK _ ?_; clear hK K) | (apply Exists.intro; refine ⟨fun _ => ?_, hK _ ?_⟩; (first | (go_at_call 45; exact calls_low (HCK.out _)) | (go_at_call 28; exact calls_low (HWI.out _))); clear hK K))
          refine low_nil ?_
          rintro ⟨W5, hb5⟩
          dsimp only
          have hB5 := H1.out.1.trans (hb5.mono H1.out.1.size)
          have hx5 := H1.out.2.1.below hb5 H1.out.2.1.lt
          have hv5 := H1.out.2.2.below hb5 H1.out.2.2.lt
          have H5 := Lib.hid (And.intro hB5 (And.intro hx5 hv5))
          have y0 := hx5.cell 0; have y1 := hx5.cell 1; have y2 := hx5.cell 2; have y3 := hx5.cell 3; have y4 := hx5.cell 4
          clear hB5 hx5 hv5 c0 c1 c2 c3 c4 v0 hb5 H1 HCK
          by_cases hwi : withinB rn.data.toList z.data.toList = true
          · rw [hwi]
            obtain ⟨fn, hfn⟩ : ∃ fn : ByteArray, (⟨(foldB rn.data.toList).toArray⟩ : ByteArray) = fn := ⟨_, rfl⟩
            have HFO := Lib.hid (fun W => Fold_any rn (by have := HH.out.2.1.1.1; omega) W)
            rw [hfn] at HFO
            have HFN := Lib.hid hfn
            have HWB := Lib.hid (And.intro ht (And.intro hl (And.intro hk hwi)))
            clear hfn hwi hk ht hl hk0 e1 e2 e3 e4
            go_wp2_with (fail)
            with_reducible refine (HFO.out _).mono ?_
            rintro e w6 ⟨rfl, hb6⟩
            go_wp2_with (fail)
            rename_i K0 hK0
            have hx6 := H5.out.2.1.below hb6 H5.out.2.1.lt
            have HC : RowKit.Hid (∀ W, Below w6.heap.size w6 W → W.cell? ⟨w.heap.size, 0, none⟩ = some (.string rn) ∧ W.cell? ⟨w.heap.size, 1, none⟩ = some (.int .u16 rt) ∧ W.cell? ⟨w.heap.size, 2, none⟩ = some (.int .u16 1) ∧ W.cell? ⟨w.heap.size, 4, none⟩ = some (.string rd)) := Lib.hid (fun W hW => by
              have k := hx6.below hW hx6.lt
              exact ⟨k.cell 0, k.cell 1, k.cell 2, k.cell 4⟩)
            have hC : Below w6.heap.size w6 w6.drew := (Below.refl _ _).drew
            obtain ⟨fd, hfd⟩ : ∃ fd : ByteArray, (⟨(foldD rt rd.data.toList).toArray⟩ : ByteArray) = fd := ⟨_, rfl⟩
            have HFJ := Lib.hid (fun W => foldJ_any rt rd (by have := HH.out.2.1.1.2; omega) W)
            rw [hfd] at HFJ
            have HFD := Lib.hid hfd
            clear hfd y0 y1 y2 y3 y4
            have REST : ∀ (g : Nat) (W7 : World), Blk W7 g 109 #[.string fn, .int .u16 rt, .int .u16 1, .string fd] → Below w6.heap.size w6 W7 → w6.heap.size ≤ g → K0 { tmps := (((.pointer (some ⟨vb, 0, none⟩) : Value) :: .agg #[.string rn, .int .u16 rt, .int .u16 1, .int .u32 rl, .string rd] :: undef :: .pointer (some ⟨w.heap.size, 0, none⟩) :: .bool false :: .string fn :: .pointer (some ⟨g, 0, none⟩) :: undef :: .pointer (some ⟨w.heap.size, 2, none⟩) :: .int .u16 1 :: .bool false :: .bool false :: .pointer (some ⟨w.heap.size, 1, none⟩) :: .int .u16 rt :: .bool false :: .bool false :: .bool false :: .pointer (some ⟨w.heap.size, 3, none⟩) :: .int .u32 rl :: .bool false :: .bool false :: .agg #[.string rn, .int .u16 rt, .int .u16 1, .int .u32 rl, .string rd] :: .int .i64 0 :: .bool false :: .bool false :: .pointer (some ⟨w.heap.size, 0, none⟩) :: .string rn :: .pointer (some ⟨vb, 0, none⟩) :: .pointer (some ⟨vb, 0, none⟩) :: .pointer (some ⟨vb, 0, none⟩) :: .pointer (some ⟨vb, 0, none⟩) :: .string z :: .bool true :: .bool false :: .bool false :: .pointer (some ⟨w.heap.size, 0, none⟩) :: .string rn :: .string fn :: .string fn :: .pointer (some ⟨w.heap.size, 1, none⟩) :: .int .u16 rt :: .pointer (some ⟨w.heap.size, 2, none⟩) :: .int .u16 1 :: .pointer (some ⟨w.heap.size, 1, none⟩) :: .int .u16 rt :: .pointer (some ⟨w.heap.size, 4, none⟩) :: .string rd :: .string fd :: .agg #[.string fn, .int .u16 rt, .int .u16 1, .string fd] :: undef :: undef :: undef :: undef :: undef :: undef :: undef :: undef :: undef :: undef :: undef :: undef :: undef :: undef :: undef :: undef :: undef :: undef :: undef :: undef :: undef :: undef :: undef :: undef :: undef :: undef :: undef :: undef :: undef :: undef :: undef :: undef :: undef :: undef :: undef :: undef :: undef :: undef :: undef :: undef :: undef :: undef :: undef :: undef :: undef :: undef :: undef :: undef :: undef :: undef :: undef :: undef :: undef :: undef :: undef :: undef :: undef :: undef :: undef :: []) : List Value).toArray, defers := [] } W7 := by
              intro g W7 hg hb7 hle7
              refine hK0 _ _ ?_
              clear hK0 HC hC
              have hW6 : Below w.heap.size w w6 := H5.out.1.trans (hb6.mono H5.out.1.size)
              have hBW : Below w.heap.size w W7 := hW6.trans (hb7.mono hW6.size)
              have hL7 := HH.out.1.low hBW
              have hzs := hW6.size
              have hG : g ≠ sb ∧ g ≠ nb ∧ g ≠ vb := by have := HH.out.1.sm.lt; have := HH.out.1.nm.lt; have := HH.out.1.bx.lt; omega
              have hx7 : Blk W7 w.heap.size 33 #[.string rn, .int .u16 rt, .int .u16 1, .int .u32 rl, .string rd] := hx6.below hb7 hx6.lt
              have hfs : fn.size ≤ maxLen := by
                have e1 : fn.data.toList.length = rn.size := by rw [← HFN.out]; show (foldB rn.data.toList).toArray.toList.length = _; rw [List.toList_toArray, foldB_length, bsize]
                rw [bsize] at e1
                have := HH.out.2.1.1.1
                unfold maxLen; omega
              have hds : fd.size ≤ maxLen := by
                have e1 : fd.data.toList.length = rd.size := by rw [← HFD.out]; show (foldD rt rd.data.toList).toArray.toList.length = _; rw [List.toList_toArray, foldD_len, bsize]
                rw [bsize] at e1
                have := HH.out.2.1.1.2
                unfold maxLen; omega
              have hrt : 0 ≤ rt ∧ rt ≤ 65535 := HH.out.2.1.2.2.1
              have hkey : (fn.data.toList, rt, (1 : Int), fd.data.toList) = keyZ ⟨rn, rt, 1, rl, rd⟩ := by rw [← HFN.out, ← HFD.out]; rfl
              have hlk7 := hL7.sm.look fn fd rt 1 hfs hds hrt ⟨by omega, by omega⟩
              have v1 : ∀ p : BelowOf W7, p.X.cell? ⟨vb, 2, none⟩ = some (.map (some sb)) := fun p => (Blk.low hL7.bx p).cell 2
              have s0 : ∀ p : BelowOf W7, p.X.cell? ⟨g, 0, none⟩ = some (.string fn) := fun p => (Blk.low hg p).cell 0
              have s1 : ∀ p : BelowOf W7, p.X.cell? ⟨g, 1, none⟩ = some (.int .u16 rt) := fun p => (Blk.low hg p).cell 1
              have s2 : ∀ p : BelowOf W7, p.X.cell? ⟨g, 2, none⟩ = some (.int .u16 1) := fun p => (Blk.low hg p).cell 2
              have s3 : ∀ p : BelowOf W7, p.X.cell? ⟨g, 3, none⟩ = some (.string fd) := fun p => (Blk.low hg p).cell 3
              have H7 := Lib.hid (And.intro hBW (And.intro hL7 (And.intro hG (And.intro hx7 (And.intro hg (And.intro (And.intro hfs hds) (And.intro hrt hkey)))))))
              by_cases hno : keyZ ⟨rn, rt, 1, rl, rd⟩ ∈ pre.map keyZ
              · have hlk : ∀ p : BelowOf W7, (Instr.lookup 56 (.map (some sb)) (.agg #[.string fn, .int .u16 rt, .int .u16 1, .string fd]) false).run Tryz.prog p.X = .ok (.int .i64 1) p.X := fun p => by
                  have := (hL7.low p.h).sm.look fn fd rt 1 hfs hds hrt ⟨by omega, by omega⟩
                  rw [hkey, if_pos hno] at this
                  exact this
                have HNO := Lib.hid hno
                clear hno hlk7 hW6 hBW hL7 hzs hG hx7 hfs hds hrt hkey hx6 hg
                go_wp2_with (fail)
                refine wp_region_low (by kernel_rfl) (by kernel_rfl) ?_
                repeat (refine low_step (fun K hK => ?_); go_simp; refine hK _ ?_; clear hK K)
                refine low_nil ?_
                rintro ⟨W8, hb8⟩
                dsimp only
                clear v1 s0 s1 s2 s3 hlk
                go_wp2_with (fail)
                go_ret
                have hn : takeB z.data.toList pre ⟨rn, rt, 1, rl, rd⟩ = false := by simp [takeB, HNO.out]
                exact ⟨by rw [hn]; rfl, (fun e => by rw [hn] at e; cases e), KeepK.of_below (H7.out.1.trans (hb8.mono H7.out.1.size)) fun i h => h.1⟩
              · have hlk : ∀ p : BelowOf W7, (Instr.lookup 56 (.map (some sb)) (.agg #[.string fn, .int .u16 rt, .int .u16 1, .string fd]) false).run Tryz.prog p.X = .ok (.int .i64 0) p.X := fun p => by
                  have := (hL7.low p.h).sm.look fn fd rt 1 hfs hds hrt ⟨by omega, by omega⟩
                  rw [hkey, if_neg hno] at this
                  exact this
                have HNO := Lib.hid hno
                clear hno hlk7 hW6 hBW hL7 hzs hG hx7 hfs hds hrt hkey hx6 hg
                go_wp2_with (fail)
                refine wp_region_low (by kernel_rfl) (by kernel_rfl) ?_
                repeat (refine low_step (fun K hK => ?_); go_simp; refine hK _ ?_; clear hK K)
                refine low_nil ?_
                rintro ⟨W8, hb8⟩
                dsimp only
                clear v1 s0 s1 s2 s3 hlk
                go_wp2_with (fail)
                rename_i K1 hK1
                obtain ⟨U, hU⟩ : ∃ U, W8.drew = U := ⟨_, rfl⟩
                have hL8 : LkS U vb sb nb z A len c m pre := by rw [← hU]; exact H7.out.2.1.low hb8.drew
                have hg8 : Blk U g 109 #[.string fn, .int .u16 rt, .int .u16 1, .string fd] := by rw [← hU]; exact H7.out.2.2.2.2.1.below hb8.drew H7.out.2.2.2.2.1.lt
                obtain ⟨w9, w10, en, q1, q2, q3, q4, q5, q6⟩ := hL8.sm.put HH.out.2.2.2.1 fn fd rt 1 H7.out.2.2.2.2.2.1.1 H7.out.2.2.2.2.2.1.2 H7.out.2.2.2.2.2.2.1 ⟨by omega, by omega⟩ (by rw [H7.out.2.2.2.2.2.2.2]; exact HNO.out)
                have hLk : (Instr.lookup 56 (.map (some sb)) (.agg #[.string fn, .int .u16 rt, .int .u16 1, .string fd]) false).run Tryz.prog U = .ok (.int .i64 0) U := by
                  have := hL8.sm.look fn fd rt 1 H7.out.2.2.2.2.2.1.1 H7.out.2.2.2.2.2.1.2 H7.out.2.2.2.2.2.2.1 ⟨by omega, by omega⟩
                  rw [H7.out.2.2.2.2.2.2.2, if_neg HNO.out] at this
                  exact this
                obtain ⟨C9, hC9⟩ : ∃ C9 : World → Prop, (fun W => Blk W vb 59 #[.string z, .slice A len c, .map (some sb), .map (some nb)] ∧ Blk W g 109 #[.string fn, .int .u16 rt, .int .u16 1, .string fd]) = C9 := ⟨_, rfl⟩
                have HC9 : RowKit.Hid (∀ W, C9 W → W.cell? ⟨vb, 2, none⟩ = some (.map (some sb)) ∧ W.cell? ⟨g, 0, none⟩ = some (.string fn) ∧ W.cell? ⟨g, 1, none⟩ = some (.int .u16 rt) ∧ W.cell? ⟨g, 2, none⟩ = some (.int .u16 1) ∧ W.cell? ⟨g, 3, none⟩ = some (.string fd)) := Lib.hid (fun W hW => by
                  rw [← hC9] at hW
                  exact ⟨hW.1.cell 2, hW.2.cell 0, hW.2.cell 1, hW.2.cell 2, hW.2.cell 3⟩)
                have hC0 : C9 U := by rw [← hC9]; exact ⟨hL8.bx, hg8⟩
                have n1 : some vb ≠ some sb := fun e => HH.out.1.ne.1 (Option.some.inj e)
                have n2 : some g ≠ some sb := fun e => H7.out.2.2.1.1 (Option.some.inj e)
                have hC1 : C9 w9 := by rw [← hC9]; exact ⟨hL8.bx.grown q5 n1, hg8.grown q5 n2⟩
                have hC2 : C9 w10 := by rw [← hC9]; exact ⟨hL8.bx.grown q6 n1, hg8.grown q6 n2⟩
                have hx8 : Blk w10 w.heap.size 33 #[.string rn, .int .u16 rt, .int .u16 1, .int .u32 rl, .string rd] := by
                  have h1 : Blk U w.heap.size 33 #[.string rn, .int .u16 rt, .int .u16 1, .int .u32 rl, .string rd] := by rw [← hU]; exact H7.out.2.2.2.1.below hb8.drew H7.out.2.2.2.1.lt
                  exact h1.grown q6 (fun e => by have := Option.some.inj e; have := HH.out.1.sm.lt; omega)
                have hBU : Below w.heap.size w W8 := H7.out.1.trans (hb8.mono H7.out.1.size)
                have hnm : NamesM w10 nb m pre := hL8.nm.keep (q6.block nb hL8.nm.lt (fun e => HH.out.1.ne.2.2 (Option.some.inj e).symm))
                have hbx : Blk w10 vb 59 #[.string z, .slice A len c, .map (some sb), .map (some nb)] := hL8.bx.grown q6 n1
                have hgs : w.heap.size < w10.heap.size := hx8.lt
                have hq6 : W8.drew.grownBy w10 (some sb) := by rw [hU]; exact q6
                rw [H7.out.2.2.2.2.2.2.2] at q4
                have H9 := Lib.hid (And.intro q4 (And.intro hq6 (And.intro hx8 (And.intro hBU (And.intro hnm (And.intro hbx hgs))))))
                clear hL8 hg8 q4 q5 q6 hq6 hx8 hBU hnm hbx hgs n1 n2 hC9
                have REST9 : K1 { tmps := (((.pointer (some ⟨vb, 0, none⟩) : Value) :: .agg #[.string rn, .int .u16 rt, .int .u16 1, .int .u32 rl, .string rd] :: undef :: .pointer (some ⟨w.heap.size, 0, none⟩) :: .bool false :: .string fn :: .pointer (some ⟨g, 0, none⟩) :: undef :: .pointer (some ⟨w.heap.size, 2, none⟩) :: .int .u16 1 :: .bool false :: .bool false :: .pointer (some ⟨w.heap.size, 1, none⟩) :: .int .u16 rt :: .bool false :: .bool false :: .bool false :: .pointer (some ⟨w.heap.size, 3, none⟩) :: .int .u32 rl :: .bool false :: .bool false :: .agg #[.string rn, .int .u16 rt, .int .u16 1, .int .u32 rl, .string rd] :: .int .i64 0 :: .bool false :: .bool false :: .pointer (some ⟨w.heap.size, 0, none⟩) :: .string rn :: .pointer (some ⟨vb, 0, none⟩) :: .pointer (some ⟨vb, 0, none⟩) :: .pointer (some ⟨vb, 0, none⟩) :: .pointer (some ⟨vb, 0, none⟩) :: .string z :: .bool true :: .bool false :: .bool false :: .pointer (some ⟨w.heap.size, 0, none⟩) :: .string rn :: .string fn :: .string fn :: .pointer (some ⟨w.heap.size, 1, none⟩) :: .int .u16 rt :: .pointer (some ⟨w.heap.size, 2, none⟩) :: .int .u16 1 :: .pointer (some ⟨w.heap.size, 1, none⟩) :: .int .u16 rt :: .pointer (some ⟨w.heap.size, 4, none⟩) :: .string rd :: .string fd :: .agg #[.string fn, .int .u16 rt, .int .u16 1, .string fd] :: .pointer (some ⟨vb, 0, none⟩) :: .pointer (some ⟨vb, 0, none⟩) :: .pointer (some ⟨vb, 2, none⟩) :: .map (some sb) :: .agg #[.string fn, .int .u16 rt, .int .u16 1, .string fd] :: .int .i64 0 :: .bool false :: .pointer (some ⟨vb, 0, none⟩) :: .pointer (some ⟨vb, 0, none⟩) :: .pointer (some ⟨vb, 2, none⟩) :: .map (some sb) :: .agg #[.string fn, .int .u16 rt, .int .u16 1, .string fd] :: .int .i64 0 :: .int .i64 1 :: .tuple #[.int .i64 0, en] :: en :: undef :: undef :: undef :: undef :: undef :: undef :: undef :: undef :: undef :: undef :: undef :: undef :: undef :: undef :: undef :: undef :: undef :: undef :: undef :: undef :: undef :: undef :: undef :: undef :: undef :: undef :: undef :: undef :: undef :: undef :: undef :: undef :: undef :: undef :: undef :: undef :: undef :: undef :: undef :: undef :: undef :: undef :: undef :: []) : List Value).toArray, defers := [] } w10 := by
                  refine hK1 _ _ ?_
                  clear hK1 HC9 hC0 hC1 hC2 q1 q2 q3 hLk
                  obtain ⟨a0, a1, a2, a3, a4, hat⟩ : ∃ a0 a1 a2 a3 a4 : Nat, hdOf pre (foldB rn.data.toList) = ⟨a0, a1, a2, a3, a4⟩ := ⟨_, _, _, _, _, rfl⟩
                  have hbd := hd_bound pre (foldB rn.data.toList)
                  rw [hat] at hbd
                  dsimp only at hbd
                  have hpl := HH.out.2.2.2.2
                  have hln : (Instr.lookup 57 (.map (some nb)) (.string fn) false).run Tryz.prog w10 = .ok (.agg #[.int .i64 (a0 : Int), .int .i64 (a1 : Int), .int .i64 (a2 : Int), .int .i64 (a3 : Int), .int .i64 (a4 : Int)]) w10 := by
                    have h1 := H9.out.2.2.2.2.1.look fn H7.out.2.2.2.2.2.1.1
                    have h2 : fn.data.toList = foldB rn.data.toList := by rw [← HFN.out]
                    rw [h2, hat] at h1
                    exact h1
                  have e0 : IntKind.i64.wrap ((a0 : Int) + 1) = (a0 : Int) + 1 := by rw [IntKind.wrap_i64]; omega
                  have e1 : IntKind.i64.wrap ((a1 : Int) + 1) = (a1 : Int) + 1 := by rw [IntKind.wrap_i64]; omega
                  have e2 : IntKind.i64.wrap ((a2 : Int) + 1) = (a2 : Int) + 1 := by rw [IntKind.wrap_i64]; omega
                  have e3 : IntKind.i64.wrap ((a3 : Int) + 1) = (a3 : Int) + 1 := by rw [IntKind.wrap_i64]; omega
                  have e4 : IntKind.i64.wrap ((a4 : Int) + 1) = (a4 : Int) + 1 := by rw [IntKind.wrap_i64]; omega
                  have HA := Lib.hid hat
                  clear hbd hpl hat
                  have x1 : w10.cell? ⟨vb, 3, none⟩ = some (.map (some nb)) := H9.out.2.2.2.2.2.1.cell 3
                  go_upto_region 11 with (fail)
                  obtain ⟨gb, hgb⟩ : ∃ gb, w10.heap.size = gb := ⟨_, rfl⟩
                  obtain ⟨W, hW⟩ : ∃ W, w10.alloc (.cells #[.int .i64 (a0 : Int), .int .i64 (a1 : Int), .int .i64 (a2 : Int), .int .i64 (a3 : Int), .int .i64 (a4 : Int)] 111) = W := ⟨_, rfl⟩
                  have hB1 : Blk W gb 111 #[.int .i64 (a0 : Int), .int .i64 (a1 : Int), .int .i64 (a2 : Int), .int .i64 (a3 : Int), .int .i64 (a4 : Int)] := by rw [← hW, ← hgb]; exact Blk.new _ _ _
                  have hk1 : Below gb w10 W := by rw [← hW, ← hgb]; exact (Below.refl _ _).alloc (Nat.le_refl _) _
                  rw [hW, hgb]
                  clear hW hln x1
                  have j0 : W.cell? ⟨gb, 0, none⟩ = some (.int .i64 (a0 : Int)) := hB1.cell 0
                  have f0 := hB1.frozen 0
                  have HB1 := Lib.hid (And.intro hB1 hk1)
                  clear hB1 hk1
                  go_upto_region 12 with (fail)
                  obtain ⟨W1, hW1⟩ : ∃ W1, W.setCell ⟨gb, 0, none⟩ (.int .i64 ((a0 : Int) + 1)) = W1 := ⟨_, rfl⟩
                  have hB2 : Blk W1 gb 111 #[.int .i64 ((a0 : Int) + 1), .int .i64 (a1 : Int), .int .i64 (a2 : Int), .int .i64 (a3 : Int), .int .i64 (a4 : Int)] := by rw [← hW1]; exact HB1.out.1.set_ 0 _
                  have hk2 : Below gb w10 W1 := by rw [← hW1]; exact HB1.out.2.setCell (Nat.le_refl _) _
                  rw [hW1]
                  clear hW1 j0 f0
                  have hgl : w.heap.size < gb := by rw [← hgb]; exact H9.out.2.2.2.2.2.2
                  have y1 : W1.cell? ⟨w.heap.size, 1, none⟩ = some (.int .u16 rt) := (H9.out.2.2.1.below hk2 hgl).cell 1
                  have j1 : W1.cell? ⟨gb, 1, none⟩ = some (.int .i64 (a1 : Int)) := hB2.cell 1
                  have j2 : W1.cell? ⟨gb, 2, none⟩ = some (.int .i64 (a2 : Int)) := hB2.cell 2
                  have j3 : W1.cell? ⟨gb, 3, none⟩ = some (.int .i64 (a3 : Int)) := hB2.cell 3
                  have j4 : W1.cell? ⟨gb, 4, none⟩ = some (.int .i64 (a4 : Int)) := hB2.cell 4
                  have f1 := hB2.frozen 1
                  have f2 := hB2.frozen 2
                  have f3 := hB2.frozen 3
                  have f4 := hB2.frozen 4
                  have HB2 := Lib.hid (And.intro hB2 (And.intro hk2 hgl))
                  have HGB := Lib.hid hgb
                  clear hB2 hk2 hgl HB1 hgb
                  by_cases h6 : rt = 6
                  · have HT : RowKit.Hid (rt = 6) := Lib.hid h6
                    have g6 : (rt == 6) = true := by simp [h6]
                    clear h6
                    go_upto_region 22 with (fail)
                    clear y1 j1 j2 j3 j4 f1 f2 f3 f4 e0 e1 e2 e3 e4
                    obtain ⟨W2, hW2⟩ : ∃ W2, W1.setCell ⟨gb, 1, none⟩ (.int .i64 ((a1 : Int) + 1)) = W2 := ⟨_, rfl⟩
                    have hB3 : Blk W2 gb 111 #[.int .i64 ((a0 : Int) + 1), .int .i64 ((a1 : Int) + 1), .int .i64 (a2 : Int), .int .i64 (a3 : Int), .int .i64 (a4 : Int)] := by rw [← hW2]; exact HB2.out.1.set_ 1 _
                    have hk3 : Below gb w10 W2 := by rw [← hW2]; exact HB2.out.2.1.setCell (Nat.le_refl _) _
                    rw [hW2]
                    clear hW2
                    go_wp2_with (fail)
                    rename_i K2 hK2
                    obtain ⟨V, hV⟩ : ∃ V, W2.drew = V := ⟨_, rfl⟩
                    have hbV : Below gb w10 V := by rw [← hV]; exact hk3.drew
                    have hlv : vb < gb := by have := HH.out.1.bx.lt; have := HB2.out.2.2; omega
                    have hlb : nb < gb := by have := HH.out.1.nm.lt; have := HB2.out.2.2; omega
                    have hBV : Blk V gb 111 #[.int .i64 ((a0 : Int) + 1), .int .i64 ((a1 : Int) + 1), .int .i64 (a2 : Int), .int .i64 (a3 : Int), .int .i64 (a4 : Int)] := by rw [← hV]; exact hB3
                    have hLV : Blk V vb 59 #[.string z, .slice A len c, .map (some sb), .map (some nb)] := H9.out.2.2.2.2.2.1.below hbV hlv
                    obtain ⟨w13, p1, p2, p3⟩ := (H9.out.2.2.2.2.1.keep (hbV.block nb hlb)).put HH.out.2.2.2.1 ⟨rn, rt, 1, rl, rd⟩ fn H7.out.2.2.2.2.2.1.1 (by rw [← HFN.out]) (.agg #[.int .i64 ((a0 : Int) + 1), .int .i64 ((a1 : Int) + 1), .int .i64 (a2 : Int), .int .i64 (a3 : Int), .int .i64 (a4 : Int)]) (by rw [hd_snoc]; show _ = Hd.val ⟨(hdOf pre (foldB rn.data.toList)).all + 1, (hdOf pre (foldB rn.data.toList)).soa + (if rt = 6 then 1 else 0), (hdOf pre (foldB rn.data.toList)).ns + (if rt = 2 then 1 else 0), (hdOf pre (foldB rn.data.toList)).ali + (if rt = 5 then 1 else 0), (hdOf pre (foldB rn.data.toList)).adr + (if rt = 1 ∨ rt = 28 then 1 else 0)⟩; rw [HA.out]; simp [Hd.val, HT.out])
                    obtain ⟨C2, hC2⟩ : ∃ C2 : World → Prop, (fun W => Blk W vb 59 #[.string z, .slice A len c, .map (some sb), .map (some nb)] ∧ Blk W gb 111 #[.int .i64 ((a0 : Int) + 1), .int .i64 ((a1 : Int) + 1), .int .i64 (a2 : Int), .int .i64 (a3 : Int), .int .i64 (a4 : Int)]) = C2 := ⟨_, rfl⟩
                    have HC2 : RowKit.Hid (∀ W, C2 W → W.cell? ⟨vb, 3, none⟩ = some (.map (some nb)) ∧ W.cell? ⟨gb, 0, none⟩ = some (.int .i64 ((a0 : Int) + 1)) ∧ W.cell? ⟨gb, 1, none⟩ = some (.int .i64 ((a1 : Int) + 1)) ∧ W.cell? ⟨gb, 2, none⟩ = some (.int .i64 (a2 : Int)) ∧ W.cell? ⟨gb, 3, none⟩ = some (.int .i64 (a3 : Int)) ∧ W.cell? ⟨gb, 4, none⟩ = some (.int .i64 (a4 : Int))) := Lib.hid (fun W hW => by
                      rw [← hC2] at hW
                      exact ⟨hW.1.cell 3, hW.2.cell 0, hW.2.cell 1, hW.2.cell 2, hW.2.cell 3, hW.2.cell 4⟩)
                    have hC0 : C2 V := by rw [← hC2]; exact ⟨hLV, hBV⟩
                    have hC1 : C2 w13 := by rw [← hC2]; exact ⟨hLV.grown p3 (fun e => HH.out.1.ne.2.1 (Option.some.inj e)), hBV.grown p3 (fun e => by have := Option.some.inj e; omega)⟩
                    have HFI := Lib.hid (take_fin H9.out.2.2.2.1 HH.out.1 (by rw [List.map_append]; exact H9.out.1) H9.out.2.1 (KeepK.of_below hk3 (fun i h => by rw [HGB.out] at h; exact h)) p2 (by rw [hV]; exact p3))
                    clear hB3 hk3 hbV hBV hLV p2 p3 hlv hlb hC2
                    refine wp_region_class C2 (by kernel_rfl) ?_
                    rw [hV]
                    clear hV
                    refine wpAnyP_take (i := 0) (v := (.pointer (some ⟨vb, 0, none⟩))) rfl (by kernel_rfl) (by kernel_rfl) (by kernel_rfl) (fun _ _ _ h => h) ?_ ⟨Or.inl ⟨by rfl, ?_⟩⟩ ?_
                    · exact hC0
                    · intro W hW; go_simp
                    refine wpAnyP_take (i := 1) (v := (.pointer (some ⟨vb, 0, none⟩))) rfl (by kernel_rfl) (by kernel_rfl) (by kernel_rfl) (fun _ _ _ h => h) ?_ ⟨Or.inl ⟨by rfl, ?_⟩⟩ ?_
                    · exact hC0
                    · intro W hW; go_simp
                    refine wpAnyP_take (i := 2) (v := (.pointer (some ⟨vb, 3, none⟩))) rfl (by kernel_rfl) (by kernel_rfl) (by kernel_rfl) (fun _ _ _ h => h) ?_ ⟨Or.inl ⟨by rfl, ?_⟩⟩ ?_
                    · exact hC0
                    · intro W hW; go_simp
                    refine wpAnyP_take (i := 3) (v := (.map (some nb))) rfl (by kernel_rfl) (by kernel_rfl) (by kernel_rfl) (fun _ _ _ h => h) ?_ ⟨Or.inl ⟨by rfl, ?_⟩⟩ ?_
                    · exact hC0
                    · intro W hW; obtain ⟨c0, c1, c2, c3, c4, c5⟩ := HC2.out W hW; go_simp
                    refine wpAnyP_take (i := 4) (v := (.string fn)) rfl (by kernel_rfl) (by kernel_rfl) (by kernel_rfl) (fun _ _ _ h => h) ?_ ⟨Or.inl ⟨by rfl, ?_⟩⟩ ?_
                    · exact hC0
                    · intro W hW; go_simp
                    refine wpAnyP_take (i := 5) (v := (.agg #[.int .i64 ((a0 : Int) + 1), .int .i64 ((a1 : Int) + 1), .int .i64 (a2 : Int), .int .i64 (a3 : Int), .int .i64 (a4 : Int)])) rfl (by kernel_rfl) (by kernel_rfl) (by kernel_rfl) (fun _ _ _ h => h) ?_ ⟨Or.inl ⟨by rfl, ?_⟩⟩ ?_
                    · exact hC0
                    · intro W hW; obtain ⟨c0, c1, c2, c3, c4, c5⟩ := HC2.out W hW; go_simp
                    refine wpAnyP_ready (rs := [6]) (by kernel_rfl) (by simp) ?_
                    refine AllReadyP.cons rfl (fun K hK => ?_) AllReadyP.nil
                    go_simp
                    refine hK _ _ hC1 ?_
                    clear hK K
                    refine wpAnyP_done (by kernel_rfl) ?_ _
                    refine hK2 _ _ ?_
                    clear hK2 HC2 hC0 hC1 p1
                    go_wp2_with (fail)
                    go_ret
                    have hn : takeB z.data.toList pre ⟨rn, rt, 1, rl, rd⟩ = true := by
                      obtain ⟨ht, hl, hk, hwi⟩ := HWB.out
                      have h9 : withinB (RRec.nb ⟨rn, rt, 1, rl, rd⟩) z.data.toList = true := hwi
                      simp [takeB, ht, hl, hk, h9, HNO.out]
                    exact ⟨by rw [hn]; rfl, fun _ => HFI.out.1, HFI.out.2⟩
                  · by_cases h2 : rt = 2
                    · have HT : RowKit.Hid (rt = 2) := Lib.hid h2
                      have g6 : (rt == 6) = false := by simp [h2]
                      have g2 : (rt == 2) = true := by simp [h2]
                      clear h6 h2
                      go_upto_region 22 with (fail)
                      clear y1 j1 j2 j3 j4 f1 f2 f3 f4 e0 e1 e2 e3 e4
                      obtain ⟨W2, hW2⟩ : ∃ W2, W1.setCell ⟨gb, 2, none⟩ (.int .i64 ((a2 : Int) + 1)) = W2 := ⟨_, rfl⟩
                      have hB3 : Blk W2 gb 111 #[.int .i64 ((a0 : Int) + 1), .int .i64 (a1 : Int), .int .i64 ((a2 : Int) + 1), .int .i64 (a3 : Int), .int .i64 (a4 : Int)] := by rw [← hW2]; exact HB2.out.1.set_ 2 _
                      have hk3 : Below gb w10 W2 := by rw [← hW2]; exact HB2.out.2.1.setCell (Nat.le_refl _) _
                      rw [hW2]
                      clear hW2
                      go_wp2_with (fail)
                      rename_i K2 hK2
                      obtain ⟨V, hV⟩ : ∃ V, W2.drew = V := ⟨_, rfl⟩
                      have hbV : Below gb w10 V := by rw [← hV]; exact hk3.drew
                      have hlv : vb < gb := by have := HH.out.1.bx.lt; have := HB2.out.2.2; omega
                      have hlb : nb < gb := by have := HH.out.1.nm.lt; have := HB2.out.2.2; omega
                      have hBV : Blk V gb 111 #[.int .i64 ((a0 : Int) + 1), .int .i64 (a1 : Int), .int .i64 ((a2 : Int) + 1), .int .i64 (a3 : Int), .int .i64 (a4 : Int)] := by rw [← hV]; exact hB3
                      have hLV : Blk V vb 59 #[.string z, .slice A len c, .map (some sb), .map (some nb)] := H9.out.2.2.2.2.2.1.below hbV hlv
                      obtain ⟨w13, p1, p2, p3⟩ := (H9.out.2.2.2.2.1.keep (hbV.block nb hlb)).put HH.out.2.2.2.1 ⟨rn, rt, 1, rl, rd⟩ fn H7.out.2.2.2.2.2.1.1 (by rw [← HFN.out]) (.agg #[.int .i64 ((a0 : Int) + 1), .int .i64 (a1 : Int), .int .i64 ((a2 : Int) + 1), .int .i64 (a3 : Int), .int .i64 (a4 : Int)]) (by rw [hd_snoc]; show _ = Hd.val ⟨(hdOf pre (foldB rn.data.toList)).all + 1, (hdOf pre (foldB rn.data.toList)).soa + (if rt = 6 then 1 else 0), (hdOf pre (foldB rn.data.toList)).ns + (if rt = 2 then 1 else 0), (hdOf pre (foldB rn.data.toList)).ali + (if rt = 5 then 1 else 0), (hdOf pre (foldB rn.data.toList)).adr + (if rt = 1 ∨ rt = 28 then 1 else 0)⟩; rw [HA.out]; simp [Hd.val, HT.out])
                      obtain ⟨C2, hC2⟩ : ∃ C2 : World → Prop, (fun W => Blk W vb 59 #[.string z, .slice A len c, .map (some sb), .map (some nb)] ∧ Blk W gb 111 #[.int .i64 ((a0 : Int) + 1), .int .i64 (a1 : Int), .int .i64 ((a2 : Int) + 1), .int .i64 (a3 : Int), .int .i64 (a4 : Int)]) = C2 := ⟨_, rfl⟩
                      have HC2 : RowKit.Hid (∀ W, C2 W → W.cell? ⟨vb, 3, none⟩ = some (.map (some nb)) ∧ W.cell? ⟨gb, 0, none⟩ = some (.int .i64 ((a0 : Int) + 1)) ∧ W.cell? ⟨gb, 1, none⟩ = some (.int .i64 (a1 : Int)) ∧ W.cell? ⟨gb, 2, none⟩ = some (.int .i64 ((a2 : Int) + 1)) ∧ W.cell? ⟨gb, 3, none⟩ = some (.int .i64 (a3 : Int)) ∧ W.cell? ⟨gb, 4, none⟩ = some (.int .i64 (a4 : Int))) := Lib.hid (fun W hW => by
                        rw [← hC2] at hW
                        exact ⟨hW.1.cell 3, hW.2.cell 0, hW.2.cell 1, hW.2.cell 2, hW.2.cell 3, hW.2.cell 4⟩)
                      have hC0 : C2 V := by rw [← hC2]; exact ⟨hLV, hBV⟩
                      have hC1 : C2 w13 := by rw [← hC2]; exact ⟨hLV.grown p3 (fun e => HH.out.1.ne.2.1 (Option.some.inj e)), hBV.grown p3 (fun e => by have := Option.some.inj e; omega)⟩
                      have HFI := Lib.hid (take_fin H9.out.2.2.2.1 HH.out.1 (by rw [List.map_append]; exact H9.out.1) H9.out.2.1 (KeepK.of_below hk3 (fun i h => by rw [HGB.out] at h; exact h)) p2 (by rw [hV]; exact p3))
                      clear hB3 hk3 hbV hBV hLV p2 p3 hlv hlb hC2
                      refine wp_region_class C2 (by kernel_rfl) ?_
                      rw [hV]
                      clear hV
                      refine wpAnyP_take (i := 0) (v := (.pointer (some ⟨vb, 0, none⟩))) rfl (by kernel_rfl) (by kernel_rfl) (by kernel_rfl) (fun _ _ _ h => h) ?_ ⟨Or.inl ⟨by rfl, ?_⟩⟩ ?_
                      · exact hC0
                      · intro W hW; go_simp
                      refine wpAnyP_take (i := 1) (v := (.pointer (some ⟨vb, 0, none⟩))) rfl (by kernel_rfl) (by kernel_rfl) (by kernel_rfl) (fun _ _ _ h => h) ?_ ⟨Or.inl ⟨by rfl, ?_⟩⟩ ?_
                      · exact hC0
                      · intro W hW; go_simp
                      refine wpAnyP_take (i := 2) (v := (.pointer (some ⟨vb, 3, none⟩))) rfl (by kernel_rfl) (by kernel_rfl) (by kernel_rfl) (fun _ _ _ h => h) ?_ ⟨Or.inl ⟨by rfl, ?_⟩⟩ ?_
                      · exact hC0
                      · intro W hW; go_simp
                      refine wpAnyP_take (i := 3) (v := (.map (some nb))) rfl (by kernel_rfl) (by kernel_rfl) (by kernel_rfl) (fun _ _ _ h => h) ?_ ⟨Or.inl ⟨by rfl, ?_⟩⟩ ?_
                      · exact hC0
                      · intro W hW; obtain ⟨c0, c1, c2, c3, c4, c5⟩ := HC2.out W hW; go_simp
                      refine wpAnyP_take (i := 4) (v := (.string fn)) rfl (by kernel_rfl) (by kernel_rfl) (by kernel_rfl) (fun _ _ _ h => h) ?_ ⟨Or.inl ⟨by rfl, ?_⟩⟩ ?_
                      · exact hC0
                      · intro W hW; go_simp
                      refine wpAnyP_take (i := 5) (v := (.agg #[.int .i64 ((a0 : Int) + 1), .int .i64 (a1 : Int), .int .i64 ((a2 : Int) + 1), .int .i64 (a3 : Int), .int .i64 (a4 : Int)])) rfl (by kernel_rfl) (by kernel_rfl) (by kernel_rfl) (fun _ _ _ h => h) ?_ ⟨Or.inl ⟨by rfl, ?_⟩⟩ ?_
                      · exact hC0
                      · intro W hW; obtain ⟨c0, c1, c2, c3, c4, c5⟩ := HC2.out W hW; go_simp
                      refine wpAnyP_ready (rs := [6]) (by kernel_rfl) (by simp) ?_
                      refine AllReadyP.cons rfl (fun K hK => ?_) AllReadyP.nil
                      go_simp
                      refine hK _ _ hC1 ?_
                      clear hK K
                      refine wpAnyP_done (by kernel_rfl) ?_ _
                      refine hK2 _ _ ?_
                      clear hK2 HC2 hC0 hC1 p1
                      go_wp2_with (fail)
                      go_ret
                      have hn : takeB z.data.toList pre ⟨rn, rt, 1, rl, rd⟩ = true := by
                        obtain ⟨ht, hl, hk, hwi⟩ := HWB.out
                        have h9 : withinB (RRec.nb ⟨rn, rt, 1, rl, rd⟩) z.data.toList = true := hwi
                        simp [takeB, ht, hl, hk, h9, HNO.out]
                      exact ⟨by rw [hn]; rfl, fun _ => HFI.out.1, HFI.out.2⟩
                    · by_cases h5 : rt = 5
                      · have HT : RowKit.Hid (rt = 5) := Lib.hid h5
                        have g6 : (rt == 6) = false := by simp [h5]
                        have g2 : (rt == 2) = false := by simp [h5]
                        have g5 : (rt == 5) = true := by simp [h5]
                        clear h6 h2 h5
                        go_upto_region 22 with (fail)
                        clear y1 j1 j2 j3 j4 f1 f2 f3 f4 e0 e1 e2 e3 e4
                        obtain ⟨W2, hW2⟩ : ∃ W2, W1.setCell ⟨gb, 3, none⟩ (.int .i64 ((a3 : Int) + 1)) = W2 := ⟨_, rfl⟩
                        have hB3 : Blk W2 gb 111 #[.int .i64 ((a0 : Int) + 1), .int .i64 (a1 : Int), .int .i64 (a2 : Int), .int .i64 ((a3 : Int) + 1), .int .i64 (a4 : Int)] := by rw [← hW2]; exact HB2.out.1.set_ 3 _
                        have hk3 : Below gb w10 W2 := by rw [← hW2]; exact HB2.out.2.1.setCell (Nat.le_refl _) _
                        rw [hW2]
                        clear hW2
                        go_wp2_with (fail)
                        rename_i K2 hK2
                        obtain ⟨V, hV⟩ : ∃ V, W2.drew = V := ⟨_, rfl⟩
                        have hbV : Below gb w10 V := by rw [← hV]; exact hk3.drew
                        have hlv : vb < gb := by have := HH.out.1.bx.lt; have := HB2.out.2.2; omega
                        have hlb : nb < gb := by have := HH.out.1.nm.lt; have := HB2.out.2.2; omega
                        have hBV : Blk V gb 111 #[.int .i64 ((a0 : Int) + 1), .int .i64 (a1 : Int), .int .i64 (a2 : Int), .int .i64 ((a3 : Int) + 1), .int .i64 (a4 : Int)] := by rw [← hV]; exact hB3
                        have hLV : Blk V vb 59 #[.string z, .slice A len c, .map (some sb), .map (some nb)] := H9.out.2.2.2.2.2.1.below hbV hlv
                        obtain ⟨w13, p1, p2, p3⟩ := (H9.out.2.2.2.2.1.keep (hbV.block nb hlb)).put HH.out.2.2.2.1 ⟨rn, rt, 1, rl, rd⟩ fn H7.out.2.2.2.2.2.1.1 (by rw [← HFN.out]) (.agg #[.int .i64 ((a0 : Int) + 1), .int .i64 (a1 : Int), .int .i64 (a2 : Int), .int .i64 ((a3 : Int) + 1), .int .i64 (a4 : Int)]) (by rw [hd_snoc]; show _ = Hd.val ⟨(hdOf pre (foldB rn.data.toList)).all + 1, (hdOf pre (foldB rn.data.toList)).soa + (if rt = 6 then 1 else 0), (hdOf pre (foldB rn.data.toList)).ns + (if rt = 2 then 1 else 0), (hdOf pre (foldB rn.data.toList)).ali + (if rt = 5 then 1 else 0), (hdOf pre (foldB rn.data.toList)).adr + (if rt = 1 ∨ rt = 28 then 1 else 0)⟩; rw [HA.out]; simp [Hd.val, HT.out])
                        obtain ⟨C2, hC2⟩ : ∃ C2 : World → Prop, (fun W => Blk W vb 59 #[.string z, .slice A len c, .map (some sb), .map (some nb)] ∧ Blk W gb 111 #[.int .i64 ((a0 : Int) + 1), .int .i64 (a1 : Int), .int .i64 (a2 : Int), .int .i64 ((a3 : Int) + 1), .int .i64 (a4 : Int)]) = C2 := ⟨_, rfl⟩
                        have HC2 : RowKit.Hid (∀ W, C2 W → W.cell? ⟨vb, 3, none⟩ = some (.map (some nb)) ∧ W.cell? ⟨gb, 0, none⟩ = some (.int .i64 ((a0 : Int) + 1)) ∧ W.cell? ⟨gb, 1, none⟩ = some (.int .i64 (a1 : Int)) ∧ W.cell? ⟨gb, 2, none⟩ = some (.int .i64 (a2 : Int)) ∧ W.cell? ⟨gb, 3, none⟩ = some (.int .i64 ((a3 : Int) + 1)) ∧ W.cell? ⟨gb, 4, none⟩ = some (.int .i64 (a4 : Int))) := Lib.hid (fun W hW => by
                          rw [← hC2] at hW
                          exact ⟨hW.1.cell 3, hW.2.cell 0, hW.2.cell 1, hW.2.cell 2, hW.2.cell 3, hW.2.cell 4⟩)
                        have hC0 : C2 V := by rw [← hC2]; exact ⟨hLV, hBV⟩
                        have hC1 : C2 w13 := by rw [← hC2]; exact ⟨hLV.grown p3 (fun e => HH.out.1.ne.2.1 (Option.some.inj e)), hBV.grown p3 (fun e => by have := Option.some.inj e; omega)⟩
                        have HFI := Lib.hid (take_fin H9.out.2.2.2.1 HH.out.1 (by rw [List.map_append]; exact H9.out.1) H9.out.2.1 (KeepK.of_below hk3 (fun i h => by rw [HGB.out] at h; exact h)) p2 (by rw [hV]; exact p3))
                        clear hB3 hk3 hbV hBV hLV p2 p3 hlv hlb hC2
                        refine wp_region_class C2 (by kernel_rfl) ?_
                        rw [hV]
                        clear hV
                        refine wpAnyP_take (i := 0) (v := (.pointer (some ⟨vb, 0, none⟩))) rfl (by kernel_rfl) (by kernel_rfl) (by kernel_rfl) (fun _ _ _ h => h) ?_ ⟨Or.inl ⟨by rfl, ?_⟩⟩ ?_
                        · exact hC0
                        · intro W hW; go_simp
                        refine wpAnyP_take (i := 1) (v := (.pointer (some ⟨vb, 0, none⟩))) rfl (by kernel_rfl) (by kernel_rfl) (by kernel_rfl) (fun _ _ _ h => h) ?_ ⟨Or.inl ⟨by rfl, ?_⟩⟩ ?_
                        · exact hC0
                        · intro W hW; go_simp
                        refine wpAnyP_take (i := 2) (v := (.pointer (some ⟨vb, 3, none⟩))) rfl (by kernel_rfl) (by kernel_rfl) (by kernel_rfl) (fun _ _ _ h => h) ?_ ⟨Or.inl ⟨by rfl, ?_⟩⟩ ?_
                        · exact hC0
                        · intro W hW; go_simp
                        refine wpAnyP_take (i := 3) (v := (.map (some nb))) rfl (by kernel_rfl) (by kernel_rfl) (by kernel_rfl) (fun _ _ _ h => h) ?_ ⟨Or.inl ⟨by rfl, ?_⟩⟩ ?_
                        · exact hC0
                        · intro W hW; obtain ⟨c0, c1, c2, c3, c4, c5⟩ := HC2.out W hW; go_simp
                        refine wpAnyP_take (i := 4) (v := (.string fn)) rfl (by kernel_rfl) (by kernel_rfl) (by kernel_rfl) (fun _ _ _ h => h) ?_ ⟨Or.inl ⟨by rfl, ?_⟩⟩ ?_
                        · exact hC0
                        · intro W hW; go_simp
                        refine wpAnyP_take (i := 5) (v := (.agg #[.int .i64 ((a0 : Int) + 1), .int .i64 (a1 : Int), .int .i64 (a2 : Int), .int .i64 ((a3 : Int) + 1), .int .i64 (a4 : Int)])) rfl (by kernel_rfl) (by kernel_rfl) (by kernel_rfl) (fun _ _ _ h => h) ?_ ⟨Or.inl ⟨by rfl, ?_⟩⟩ ?_
                        · exact hC0
                        · intro W hW; obtain ⟨c0, c1, c2, c3, c4, c5⟩ := HC2.out W hW; go_simp
                        refine wpAnyP_ready (rs := [6]) (by kernel_rfl) (by simp) ?_
                        refine AllReadyP.cons rfl (fun K hK => ?_) AllReadyP.nil
                        go_simp
                        refine hK _ _ hC1 ?_
                        clear hK K
                        refine wpAnyP_done (by kernel_rfl) ?_ _
                        refine hK2 _ _ ?_
                        clear hK2 HC2 hC0 hC1 p1
                        go_wp2_with (fail)
                        go_ret
                        have hn : takeB z.data.toList pre ⟨rn, rt, 1, rl, rd⟩ = true := by
                          obtain ⟨ht, hl, hk, hwi⟩ := HWB.out
                          have h9 : withinB (RRec.nb ⟨rn, rt, 1, rl, rd⟩) z.data.toList = true := hwi
                          simp [takeB, ht, hl, hk, h9, HNO.out]
                        exact ⟨by rw [hn]; rfl, fun _ => HFI.out.1, HFI.out.2⟩
                      · by_cases h1 : rt = 1
                        · have HT : RowKit.Hid (rt = 1) := Lib.hid h1
                          have g6 : (rt == 6) = false := by simp [h1]
                          have g2 : (rt == 2) = false := by simp [h1]
                          have g5 : (rt == 5) = false := by simp [h1]
                          have g1 : (rt == 1) = true := by simp [h1]
                          clear h6 h2 h5 h1
                          go_upto_region 22 with (fail)
                          clear y1 j1 j2 j3 j4 f1 f2 f3 f4 e0 e1 e2 e3 e4
                          obtain ⟨W2, hW2⟩ : ∃ W2, W1.setCell ⟨gb, 4, none⟩ (.int .i64 ((a4 : Int) + 1)) = W2 := ⟨_, rfl⟩
                          have hB3 : Blk W2 gb 111 #[.int .i64 ((a0 : Int) + 1), .int .i64 (a1 : Int), .int .i64 (a2 : Int), .int .i64 (a3 : Int), .int .i64 ((a4 : Int) + 1)] := by rw [← hW2]; exact HB2.out.1.set_ 4 _
                          have hk3 : Below gb w10 W2 := by rw [← hW2]; exact HB2.out.2.1.setCell (Nat.le_refl _) _
                          rw [hW2]
                          clear hW2
                          go_wp2_with (fail)
                          rename_i K2 hK2
                          obtain ⟨V, hV⟩ : ∃ V, W2.drew = V := ⟨_, rfl⟩
                          have hbV : Below gb w10 V := by rw [← hV]; exact hk3.drew
                          have hlv : vb < gb := by have := HH.out.1.bx.lt; have := HB2.out.2.2; omega
                          have hlb : nb < gb := by have := HH.out.1.nm.lt; have := HB2.out.2.2; omega
                          have hBV : Blk V gb 111 #[.int .i64 ((a0 : Int) + 1), .int .i64 (a1 : Int), .int .i64 (a2 : Int), .int .i64 (a3 : Int), .int .i64 ((a4 : Int) + 1)] := by rw [← hV]; exact hB3
                          have hLV : Blk V vb 59 #[.string z, .slice A len c, .map (some sb), .map (some nb)] := H9.out.2.2.2.2.2.1.below hbV hlv
                          obtain ⟨w13, p1, p2, p3⟩ := (H9.out.2.2.2.2.1.keep (hbV.block nb hlb)).put HH.out.2.2.2.1 ⟨rn, rt, 1, rl, rd⟩ fn H7.out.2.2.2.2.2.1.1 (by rw [← HFN.out]) (.agg #[.int .i64 ((a0 : Int) + 1), .int .i64 (a1 : Int), .int .i64 (a2 : Int), .int .i64 (a3 : Int), .int .i64 ((a4 : Int) + 1)]) (by rw [hd_snoc]; show _ = Hd.val ⟨(hdOf pre (foldB rn.data.toList)).all + 1, (hdOf pre (foldB rn.data.toList)).soa + (if rt = 6 then 1 else 0), (hdOf pre (foldB rn.data.toList)).ns + (if rt = 2 then 1 else 0), (hdOf pre (foldB rn.data.toList)).ali + (if rt = 5 then 1 else 0), (hdOf pre (foldB rn.data.toList)).adr + (if rt = 1 ∨ rt = 28 then 1 else 0)⟩; rw [HA.out]; simp [Hd.val, HT.out])
                          obtain ⟨C2, hC2⟩ : ∃ C2 : World → Prop, (fun W => Blk W vb 59 #[.string z, .slice A len c, .map (some sb), .map (some nb)] ∧ Blk W gb 111 #[.int .i64 ((a0 : Int) + 1), .int .i64 (a1 : Int), .int .i64 (a2 : Int), .int .i64 (a3 : Int), .int .i64 ((a4 : Int) + 1)]) = C2 := ⟨_, rfl⟩
                          have HC2 : RowKit.Hid (∀ W, C2 W → W.cell? ⟨vb, 3, none⟩ = some (.map (some nb)) ∧ W.cell? ⟨gb, 0, none⟩ = some (.int .i64 ((a0 : Int) + 1)) ∧ W.cell? ⟨gb, 1, none⟩ = some (.int .i64 (a1 : Int)) ∧ W.cell? ⟨gb, 2, none⟩ = some (.int .i64 (a2 : Int)) ∧ W.cell? ⟨gb, 3, none⟩ = some (.int .i64 (a3 : Int)) ∧ W.cell? ⟨gb, 4, none⟩ = some (.int .i64 ((a4 : Int) + 1))) := Lib.hid (fun W hW => by
                            rw [← hC2] at hW
                            exact ⟨hW.1.cell 3, hW.2.cell 0, hW.2.cell 1, hW.2.cell 2, hW.2.cell 3, hW.2.cell 4⟩)
                          have hC0 : C2 V := by rw [← hC2]; exact ⟨hLV, hBV⟩
                          have hC1 : C2 w13 := by rw [← hC2]; exact ⟨hLV.grown p3 (fun e => HH.out.1.ne.2.1 (Option.some.inj e)), hBV.grown p3 (fun e => by have := Option.some.inj e; omega)⟩
                          have HFI := Lib.hid (take_fin H9.out.2.2.2.1 HH.out.1 (by rw [List.map_append]; exact H9.out.1) H9.out.2.1 (KeepK.of_below hk3 (fun i h => by rw [HGB.out] at h; exact h)) p2 (by rw [hV]; exact p3))
                          clear hB3 hk3 hbV hBV hLV p2 p3 hlv hlb hC2
                          refine wp_region_class C2 (by kernel_rfl) ?_
                          rw [hV]
                          clear hV
                          refine wpAnyP_take (i := 0) (v := (.pointer (some ⟨vb, 0, none⟩))) rfl (by kernel_rfl) (by kernel_rfl) (by kernel_rfl) (fun _ _ _ h => h) ?_ ⟨Or.inl ⟨by rfl, ?_⟩⟩ ?_
                          · exact hC0
                          · intro W hW; go_simp
                          refine wpAnyP_take (i := 1) (v := (.pointer (some ⟨vb, 0, none⟩))) rfl (by kernel_rfl) (by kernel_rfl) (by kernel_rfl) (fun _ _ _ h => h) ?_ ⟨Or.inl ⟨by rfl, ?_⟩⟩ ?_
                          · exact hC0
                          · intro W hW; go_simp
                          refine wpAnyP_take (i := 2) (v := (.pointer (some ⟨vb, 3, none⟩))) rfl (by kernel_rfl) (by kernel_rfl) (by kernel_rfl) (fun _ _ _ h => h) ?_ ⟨Or.inl ⟨by rfl, ?_⟩⟩ ?_
                          · exact hC0
                          · intro W hW; go_simp
                          refine wpAnyP_take (i := 3) (v := (.map (some nb))) rfl (by kernel_rfl) (by kernel_rfl) (by kernel_rfl) (fun _ _ _ h => h) ?_ ⟨Or.inl ⟨by rfl, ?_⟩⟩ ?_
                          · exact hC0
                          · intro W hW; obtain ⟨c0, c1, c2, c3, c4, c5⟩ := HC2.out W hW; go_simp
                          refine wpAnyP_take (i := 4) (v := (.string fn)) rfl (by kernel_rfl) (by kernel_rfl) (by kernel_rfl) (fun _ _ _ h => h) ?_ ⟨Or.inl ⟨by rfl, ?_⟩⟩ ?_
                          · exact hC0
                          · intro W hW; go_simp
                          refine wpAnyP_take (i := 5) (v := (.agg #[.int .i64 ((a0 : Int) + 1), .int .i64 (a1 : Int), .int .i64 (a2 : Int), .int .i64 (a3 : Int), .int .i64 ((a4 : Int) + 1)])) rfl (by kernel_rfl) (by kernel_rfl) (by kernel_rfl) (fun _ _ _ h => h) ?_ ⟨Or.inl ⟨by rfl, ?_⟩⟩ ?_
                          · exact hC0
                          · intro W hW; obtain ⟨c0, c1, c2, c3, c4, c5⟩ := HC2.out W hW; go_simp
                          refine wpAnyP_ready (rs := [6]) (by kernel_rfl) (by simp) ?_
                          refine AllReadyP.cons rfl (fun K hK => ?_) AllReadyP.nil
                          go_simp
                          refine hK _ _ hC1 ?_
                          clear hK K
                          refine wpAnyP_done (by kernel_rfl) ?_ _
                          refine hK2 _ _ ?_
                          clear hK2 HC2 hC0 hC1 p1
                          go_wp2_with (fail)
                          go_ret
                          have hn : takeB z.data.toList pre ⟨rn, rt, 1, rl, rd⟩ = true := by
                            obtain ⟨ht, hl, hk, hwi⟩ := HWB.out
                            have h9 : withinB (RRec.nb ⟨rn, rt, 1, rl, rd⟩) z.data.toList = true := hwi
                            simp [takeB, ht, hl, hk, h9, HNO.out]
                          exact ⟨by rw [hn]; rfl, fun _ => HFI.out.1, HFI.out.2⟩
                        · by_cases h28 : rt = 28
                          · have HT : RowKit.Hid (rt = 28) := Lib.hid h28
                            have g6 : (rt == 6) = false := by simp [h28]
                            have g2 : (rt == 2) = false := by simp [h28]
                            have g5 : (rt == 5) = false := by simp [h28]
                            have g1 : (rt == 1) = false := by simp [h28]
                            have g28 : (rt == 28) = true := by simp [h28]
                            clear h6 h2 h5 h1 h28
                            go_upto_region 22 with (fail)
                            clear y1 j1 j2 j3 j4 f1 f2 f3 f4 e0 e1 e2 e3 e4
                            obtain ⟨W2, hW2⟩ : ∃ W2, W1.setCell ⟨gb, 4, none⟩ (.int .i64 ((a4 : Int) + 1)) = W2 := ⟨_, rfl⟩
                            have hB3 : Blk W2 gb 111 #[.int .i64 ((a0 : Int) + 1), .int .i64 (a1 : Int), .int .i64 (a2 : Int), .int .i64 (a3 : Int), .int .i64 ((a4 : Int) + 1)] := by rw [← hW2]; exact HB2.out.1.set_ 4 _
                            have hk3 : Below gb w10 W2 := by rw [← hW2]; exact HB2.out.2.1.setCell (Nat.le_refl _) _
                            rw [hW2]
                            clear hW2
                            go_wp2_with (fail)
                            rename_i K2 hK2
                            obtain ⟨V, hV⟩ : ∃ V, W2.drew = V := ⟨_, rfl⟩
                            have hbV : Below gb w10 V := by rw [← hV]; exact hk3.drew
                            have hlv : vb < gb := by have := HH.out.1.bx.lt; have := HB2.out.2.2; omega
                            have hlb : nb < gb := by have := HH.out.1.nm.lt; have := HB2.out.2.2; omega
                            have hBV : Blk V gb 111 #[.int .i64 ((a0 : Int) + 1), .int .i64 (a1 : Int), .int .i64 (a2 : Int), .int .i64 (a3 : Int), .int .i64 ((a4 : Int) + 1)] := by rw [← hV]; exact hB3
                            have hLV : Blk V vb 59 #[.string z, .slice A len c, .map (some sb), .map (some nb)] := H9.out.2.2.2.2.2.1.below hbV hlv
                            obtain ⟨w13, p1, p2, p3⟩ := (H9.out.2.2.2.2.1.keep (hbV.block nb hlb)).put HH.out.2.2.2.1 ⟨rn, rt, 1, rl, rd⟩ fn H7.out.2.2.2.2.2.1.1 (by rw [← HFN.out]) (.agg #[.int .i64 ((a0 : Int) + 1), .int .i64 (a1 : Int), .int .i64 (a2 : Int), .int .i64 (a3 : Int), .int .i64 ((a4 : Int) + 1)]) (by rw [hd_snoc]; show _ = Hd.val ⟨(hdOf pre (foldB rn.data.toList)).all + 1, (hdOf pre (foldB rn.data.toList)).soa + (if rt = 6 then 1 else 0), (hdOf pre (foldB rn.data.toList)).ns + (if rt = 2 then 1 else 0), (hdOf pre (foldB rn.data.toList)).ali + (if rt = 5 then 1 else 0), (hdOf pre (foldB rn.data.toList)).adr + (if rt = 1 ∨ rt = 28 then 1 else 0)⟩; rw [HA.out]; simp [Hd.val, HT.out])
                            obtain ⟨C2, hC2⟩ : ∃ C2 : World → Prop, (fun W => Blk W vb 59 #[.string z, .slice A len c, .map (some sb), .map (some nb)] ∧ Blk W gb 111 #[.int .i64 ((a0 : Int) + 1), .int .i64 (a1 : Int), .int .i64 (a2 : Int), .int .i64 (a3 : Int), .int .i64 ((a4 : Int) + 1)]) = C2 := ⟨_, rfl⟩
                            have HC2 : RowKit.Hid (∀ W, C2 W → W.cell? ⟨vb, 3, none⟩ = some (.map (some nb)) ∧ W.cell? ⟨gb, 0, none⟩ = some (.int .i64 ((a0 : Int) + 1)) ∧ W.cell? ⟨gb, 1, none⟩ = some (.int .i64 (a1 : Int)) ∧ W.cell? ⟨gb, 2, none⟩ = some (.int .i64 (a2 : Int)) ∧ W.cell? ⟨gb, 3, none⟩ = some (.int .i64 (a3 : Int)) ∧ W.cell? ⟨gb, 4, none⟩ = some (.int .i64 ((a4 : Int) + 1))) := Lib.hid (fun W hW => by
                              rw [← hC2] at hW
                              exact ⟨hW.1.cell 3, hW.2.cell 0, hW.2.cell 1, hW.2.cell 2, hW.2.cell 3, hW.2.cell 4⟩)
                            have hC0 : C2 V := by rw [← hC2]; exact ⟨hLV, hBV⟩
                            have hC1 : C2 w13 := by rw [← hC2]; exact ⟨hLV.grown p3 (fun e => HH.out.1.ne.2.1 (Option.some.inj e)), hBV.grown p3 (fun e => by have := Option.some.inj e; omega)⟩
                            have HFI := Lib.hid (take_fin H9.out.2.2.2.1 HH.out.1 (by rw [List.map_append]; exact H9.out.1) H9.out.2.1 (KeepK.of_below hk3 (fun i h => by rw [HGB.out] at h; exact h)) p2 (by rw [hV]; exact p3))
                            clear hB3 hk3 hbV hBV hLV p2 p3 hlv hlb hC2
                            refine wp_region_class C2 (by kernel_rfl) ?_
                            rw [hV]
                            clear hV
                            refine wpAnyP_take (i := 0) (v := (.pointer (some ⟨vb, 0, none⟩))) rfl (by kernel_rfl) (by kernel_rfl) (by kernel_rfl) (fun _ _ _ h => h) ?_ ⟨Or.inl ⟨by rfl, ?_⟩⟩ ?_
                            · exact hC0
                            · intro W hW; go_simp
                            refine wpAnyP_take (i := 1) (v := (.pointer (some ⟨vb, 0, none⟩))) rfl (by kernel_rfl) (by kernel_rfl) (by kernel_rfl) (fun _ _ _ h => h) ?_ ⟨Or.inl ⟨by rfl, ?_⟩⟩ ?_
                            · exact hC0
                            · intro W hW; go_simp
                            refine wpAnyP_take (i := 2) (v := (.pointer (some ⟨vb, 3, none⟩))) rfl (by kernel_rfl) (by kernel_rfl) (by kernel_rfl) (fun _ _ _ h => h) ?_ ⟨Or.inl ⟨by rfl, ?_⟩⟩ ?_
                            · exact hC0
                            · intro W hW; go_simp
                            refine wpAnyP_take (i := 3) (v := (.map (some nb))) rfl (by kernel_rfl) (by kernel_rfl) (by kernel_rfl) (fun _ _ _ h => h) ?_ ⟨Or.inl ⟨by rfl, ?_⟩⟩ ?_
                            · exact hC0
                            · intro W hW; obtain ⟨c0, c1, c2, c3, c4, c5⟩ := HC2.out W hW; go_simp
                            refine wpAnyP_take (i := 4) (v := (.string fn)) rfl (by kernel_rfl) (by kernel_rfl) (by kernel_rfl) (fun _ _ _ h => h) ?_ ⟨Or.inl ⟨by rfl, ?_⟩⟩ ?_
                            · exact hC0
                            · intro W hW; go_simp
                            refine wpAnyP_take (i := 5) (v := (.agg #[.int .i64 ((a0 : Int) + 1), .int .i64 (a1 : Int), .int .i64 (a2 : Int), .int .i64 (a3 : Int), .int .i64 ((a4 : Int) + 1)])) rfl (by kernel_rfl) (by kernel_rfl) (by kernel_rfl) (fun _ _ _ h => h) ?_ ⟨Or.inl ⟨by rfl, ?_⟩⟩ ?_
                            · exact hC0
                            · intro W hW; obtain ⟨c0, c1, c2, c3, c4, c5⟩ := HC2.out W hW; go_simp
                            refine wpAnyP_ready (rs := [6]) (by kernel_rfl) (by simp) ?_
                            refine AllReadyP.cons rfl (fun K hK => ?_) AllReadyP.nil
                            go_simp
                            refine hK _ _ hC1 ?_
                            clear hK K
                            refine wpAnyP_done (by kernel_rfl) ?_ _
                            refine hK2 _ _ ?_
                            clear hK2 HC2 hC0 hC1 p1
                            go_wp2_with (fail)
                            go_ret
                            have hn : takeB z.data.toList pre ⟨rn, rt, 1, rl, rd⟩ = true := by
                              obtain ⟨ht, hl, hk, hwi⟩ := HWB.out
                              have h9 : withinB (RRec.nb ⟨rn, rt, 1, rl, rd⟩) z.data.toList = true := hwi
                              simp [takeB, ht, hl, hk, h9, HNO.out]
                            exact ⟨by rw [hn]; rfl, fun _ => HFI.out.1, HFI.out.2⟩
                          · have HT : RowKit.Hid (¬ rt = 6 ∧ ¬ rt = 2 ∧ ¬ rt = 5 ∧ ¬ rt = 1 ∧ ¬ rt = 28) := Lib.hid ⟨h6, h2, h5, h1, h28⟩
                            have g6 : (rt == 6) = false := by simp [h6]
                            have g2 : (rt == 2) = false := by simp [h2]
                            have g5 : (rt == 5) = false := by simp [h5]
                            have g1 : (rt == 1) = false := by simp [h1]
                            have g28 : (rt == 28) = false := by simp [h28]
                            clear h6 h2 h5 h1 h28
                            go_upto_region 22 with (fail)
                            clear y1 j1 j2 j3 j4 f1 f2 f3 f4 e0 e1 e2 e3 e4
                            obtain ⟨W2, hW2⟩ : ∃ W2, W1 = W2 := ⟨_, rfl⟩
                            have hB3 : Blk W2 gb 111 #[.int .i64 ((a0 : Int) + 1), .int .i64 (a1 : Int), .int .i64 (a2 : Int), .int .i64 (a3 : Int), .int .i64 (a4 : Int)] := by rw [← hW2]; exact HB2.out.1
                            have hk3 : Below gb w10 W2 := by rw [← hW2]; exact HB2.out.2.1
                            rw [hW2]
                            clear hW2
                            go_wp2_with (fail)
                            rename_i K2 hK2
                            obtain ⟨V, hV⟩ : ∃ V, W2.drew = V := ⟨_, rfl⟩
                            have hbV : Below gb w10 V := by rw [← hV]; exact hk3.drew
                            have hlv : vb < gb := by have := HH.out.1.bx.lt; have := HB2.out.2.2; omega
                            have hlb : nb < gb := by have := HH.out.1.nm.lt; have := HB2.out.2.2; omega
                            have hBV : Blk V gb 111 #[.int .i64 ((a0 : Int) + 1), .int .i64 (a1 : Int), .int .i64 (a2 : Int), .int .i64 (a3 : Int), .int .i64 (a4 : Int)] := by rw [← hV]; exact hB3
                            have hLV : Blk V vb 59 #[.string z, .slice A len c, .map (some sb), .map (some nb)] := H9.out.2.2.2.2.2.1.below hbV hlv
                            obtain ⟨w13, p1, p2, p3⟩ := (H9.out.2.2.2.2.1.keep (hbV.block nb hlb)).put HH.out.2.2.2.1 ⟨rn, rt, 1, rl, rd⟩ fn H7.out.2.2.2.2.2.1.1 (by rw [← HFN.out]) (.agg #[.int .i64 ((a0 : Int) + 1), .int .i64 (a1 : Int), .int .i64 (a2 : Int), .int .i64 (a3 : Int), .int .i64 (a4 : Int)]) (by rw [hd_snoc]; show _ = Hd.val ⟨(hdOf pre (foldB rn.data.toList)).all + 1, (hdOf pre (foldB rn.data.toList)).soa + (if rt = 6 then 1 else 0), (hdOf pre (foldB rn.data.toList)).ns + (if rt = 2 then 1 else 0), (hdOf pre (foldB rn.data.toList)).ali + (if rt = 5 then 1 else 0), (hdOf pre (foldB rn.data.toList)).adr + (if rt = 1 ∨ rt = 28 then 1 else 0)⟩; rw [HA.out]; simp [Hd.val, HT.out])
                            obtain ⟨C2, hC2⟩ : ∃ C2 : World → Prop, (fun W => Blk W vb 59 #[.string z, .slice A len c, .map (some sb), .map (some nb)] ∧ Blk W gb 111 #[.int .i64 ((a0 : Int) + 1), .int .i64 (a1 : Int), .int .i64 (a2 : Int), .int .i64 (a3 : Int), .int .i64 (a4 : Int)]) = C2 := ⟨_, rfl⟩
                            have HC2 : RowKit.Hid (∀ W, C2 W → W.cell? ⟨vb, 3, none⟩ = some (.map (some nb)) ∧ W.cell? ⟨gb, 0, none⟩ = some (.int .i64 ((a0 : Int) + 1)) ∧ W.cell? ⟨gb, 1, none⟩ = some (.int .i64 (a1 : Int)) ∧ W.cell? ⟨gb, 2, none⟩ = some (.int .i64 (a2 : Int)) ∧ W.cell? ⟨gb, 3, none⟩ = some (.int .i64 (a3 : Int)) ∧ W.cell? ⟨gb, 4, none⟩ = some (.int .i64 (a4 : Int))) := Lib.hid (fun W hW => by
                              rw [← hC2] at hW
                              exact ⟨hW.1.cell 3, hW.2.cell 0, hW.2.cell 1, hW.2.cell 2, hW.2.cell 3, hW.2.cell 4⟩)
                            have hC0 : C2 V := by rw [← hC2]; exact ⟨hLV, hBV⟩
                            have hC1 : C2 w13 := by rw [← hC2]; exact ⟨hLV.grown p3 (fun e => HH.out.1.ne.2.1 (Option.some.inj e)), hBV.grown p3 (fun e => by have := Option.some.inj e; omega)⟩
                            have HFI := Lib.hid (take_fin H9.out.2.2.2.1 HH.out.1 (by rw [List.map_append]; exact H9.out.1) H9.out.2.1 (KeepK.of_below hk3 (fun i h => by rw [HGB.out] at h; exact h)) p2 (by rw [hV]; exact p3))
                            clear hB3 hk3 hbV hBV hLV p2 p3 hlv hlb hC2
                            refine wp_region_class C2 (by kernel_rfl) ?_
                            rw [hV]
                            clear hV
                            refine wpAnyP_take (i := 0) (v := (.pointer (some ⟨vb, 0, none⟩))) rfl (by kernel_rfl) (by kernel_rfl) (by kernel_rfl) (fun _ _ _ h => h) ?_ ⟨Or.inl ⟨by rfl, ?_⟩⟩ ?_
                            · exact hC0
                            · intro W hW; go_simp
                            refine wpAnyP_take (i := 1) (v := (.pointer (some ⟨vb, 0, none⟩))) rfl (by kernel_rfl) (by kernel_rfl) (by kernel_rfl) (fun _ _ _ h => h) ?_ ⟨Or.inl ⟨by rfl, ?_⟩⟩ ?_
                            · exact hC0
                            · intro W hW; go_simp
                            refine wpAnyP_take (i := 2) (v := (.pointer (some ⟨vb, 3, none⟩))) rfl (by kernel_rfl) (by kernel_rfl) (by kernel_rfl) (fun _ _ _ h => h) ?_ ⟨Or.inl ⟨by rfl, ?_⟩⟩ ?_
                            · exact hC0
                            · intro W hW; go_simp
                            refine wpAnyP_take (i := 3) (v := (.map (some nb))) rfl (by kernel_rfl) (by kernel_rfl) (by kernel_rfl) (fun _ _ _ h => h) ?_ ⟨Or.inl ⟨by rfl, ?_⟩⟩ ?_
                            · exact hC0
                            · intro W hW; obtain ⟨c0, c1, c2, c3, c4, c5⟩ := HC2.out W hW; go_simp
                            refine wpAnyP_take (i := 4) (v := (.string fn)) rfl (by kernel_rfl) (by kernel_rfl) (by kernel_rfl) (fun _ _ _ h => h) ?_ ⟨Or.inl ⟨by rfl, ?_⟩⟩ ?_
                            · exact hC0
                            · intro W hW; go_simp
                            refine wpAnyP_take (i := 5) (v := (.agg #[.int .i64 ((a0 : Int) + 1), .int .i64 (a1 : Int), .int .i64 (a2 : Int), .int .i64 (a3 : Int), .int .i64 (a4 : Int)])) rfl (by kernel_rfl) (by kernel_rfl) (by kernel_rfl) (fun _ _ _ h => h) ?_ ⟨Or.inl ⟨by rfl, ?_⟩⟩ ?_
                            · exact hC0
                            · intro W hW; obtain ⟨c0, c1, c2, c3, c4, c5⟩ := HC2.out W hW; go_simp
                            refine wpAnyP_ready (rs := [6]) (by kernel_rfl) (by simp) ?_
                            refine AllReadyP.cons rfl (fun K hK => ?_) AllReadyP.nil
                            go_simp
                            refine hK _ _ hC1 ?_
                            clear hK K
                            refine wpAnyP_done (by kernel_rfl) ?_ _
                            refine hK2 _ _ ?_
                            clear hK2 HC2 hC0 hC1 p1
                            go_wp2_with (fail)
                            go_ret
                            have hn : takeB z.data.toList pre ⟨rn, rt, 1, rl, rd⟩ = true := by
                              obtain ⟨ht, hl, hk, hwi⟩ := HWB.out
                              have h9 : withinB (RRec.nb ⟨rn, rt, 1, rl, rd⟩) z.data.toList = true := hwi
                              simp [takeB, ht, hl, hk, h9, HNO.out]
                            exact ⟨by rw [hn]; rfl, fun _ => HFI.out.1, HFI.out.2⟩
                have hw1 : IntKind.i64.wrap 1 = 1 := by kernel_rfl
                refine wp_region_class C9 (by kernel_rfl) ?_
                rw [hU]
                clear hU hb8
                refine wpAnyP_take (i := 0) (v := (.pointer (some ⟨vb, 0, none⟩))) rfl (by kernel_rfl) (by kernel_rfl) (by kernel_rfl) (fun _ _ _ h => h) ?_ ⟨Or.inl ⟨by rfl, ?_⟩⟩ ?_
                · exact hC0
                · intro W hW; go_simp
                refine wpAnyP_take (i := 1) (v := (.pointer (some ⟨vb, 0, none⟩))) rfl (by kernel_rfl) (by kernel_rfl) (by kernel_rfl) (fun _ _ _ h => h) ?_ ⟨Or.inl ⟨by rfl, ?_⟩⟩ ?_
                · exact hC0
                · intro W hW; go_simp
                refine wpAnyP_take (i := 2) (v := (.pointer (some ⟨vb, 2, none⟩))) rfl (by kernel_rfl) (by kernel_rfl) (by kernel_rfl) (fun _ _ _ h => h) ?_ ⟨Or.inl ⟨by rfl, ?_⟩⟩ ?_
                · exact hC0
                · intro W hW; go_simp
                refine wpAnyP_take (i := 3) (v := (.map (some sb))) rfl (by kernel_rfl) (by kernel_rfl) (by kernel_rfl) (fun _ _ _ h => h) ?_ ⟨Or.inl ⟨by rfl, ?_⟩⟩ ?_
                · exact hC0
                · intro W hW; obtain ⟨c0, c1, c2, c3, c4⟩ := HC9.out W hW; go_simp
                refine wpAnyP_take (i := 4) (v := (.agg #[.string fn, .int .u16 rt, .int .u16 1, .string fd])) rfl (by kernel_rfl) (by kernel_rfl) (by kernel_rfl) (fun _ _ _ h => h) ?_ ⟨Or.inl ⟨by rfl, ?_⟩⟩ ?_
                · exact hC0
                · intro W hW; obtain ⟨c0, c1, c2, c3, c4⟩ := HC9.out W hW; go_simp
                refine wpAnyP_ready (rs := [5, 7]) (by kernel_rfl) (by simp) ?_
                refine AllReadyP.cons rfl (fun K hK => ?_) (AllReadyP.cons rfl (fun K hK => ?_) AllReadyP.nil)
                · go_simp
                  refine hK _ _ hC0 ?_
                  clear hK K
                  refine wpAnyP_take (i := 6) (v := (.int .i64 1)) rfl (by kernel_rfl) (by kernel_rfl) (by kernel_rfl) (fun _ _ _ h => h) ?_ ⟨Or.inl ⟨by rfl, ?_⟩⟩ ?_
                  · exact hC0
                  · intro W hW; go_simp
                  refine wpAnyP_ready (rs := [7]) (by kernel_rfl) (by simp) ?_
                  refine AllReadyP.cons rfl (fun K hK => ?_) AllReadyP.nil
                  go_simp
                  refine hK _ _ hC1 ?_
                  clear hK K
                  refine wpAnyP_take (i := 8) (v := en) rfl (by kernel_rfl) (by kernel_rfl) (by kernel_rfl) (fun _ _ _ h => h) ?_ ⟨Or.inl ⟨by rfl, ?_⟩⟩ ?_
                  · exact hC1
                  · intro W hW; go_simp
                  refine wpAnyP_ready (rs := [9]) (by kernel_rfl) (by simp) ?_
                  refine AllReadyP.cons rfl (fun K hK => ?_) AllReadyP.nil
                  go_simp
                  refine hK _ _ hC2 ?_
                  clear hK K
                  refine wpAnyP_done (by kernel_rfl) ?_ _
                  exact REST9
                · go_simp
                  refine hK _ _ hC1 ?_
                  clear hK K
                  refine wpAnyP_take (i := 8) (v := en) rfl (by kernel_rfl) (by kernel_rfl) (by kernel_rfl) (fun _ _ _ h => h) ?_ ⟨Or.inl ⟨by rfl, ?_⟩⟩ ?_
                  · exact hC1
                  · intro W hW; go_simp
                  refine wpAnyP_ready (rs := [5]) (by kernel_rfl) (by simp) ?_
                  refine AllReadyP.cons rfl (fun K hK => ?_) AllReadyP.nil
                  go_simp
                  refine hK _ _ hC1 ?_
                  clear hK K
                  refine wpAnyP_take (i := 6) (v := (.int .i64 1)) rfl (by kernel_rfl) (by kernel_rfl) (by kernel_rfl) (fun _ _ _ h => h) ?_ ⟨Or.inl ⟨by rfl, ?_⟩⟩ ?_
                  · exact hC1
                  · intro W hW; go_simp
                  refine wpAnyP_ready (rs := [9]) (by kernel_rfl) (by simp) ?_
                  refine AllReadyP.cons rfl (fun K hK => ?_) AllReadyP.nil
                  go_simp
                  refine hK _ _ hC2 ?_
                  clear hK K
                  refine wpAnyP_done (by kernel_rfl) ?_ _
                  exact REST9
            refine wp_region_class (fun W => Below w6.heap.size w6 W) (by kernel_rfl) ?_
            refine wpAnyP_take (i := 0) (v := (.string fn)) rfl (by kernel_rfl) (by kernel_rfl) (by kernel_rfl) (fun _ _ _ h => h) ?_ ⟨Or.inl ⟨by rfl, ?_⟩⟩ ?_
            · exact hC
            · intro W hW; obtain ⟨c0, c1, c2, c4⟩ := HC.out W hW; go_simp
            refine wpAnyP_take (i := 1) (v := (.pointer (some ⟨w.heap.size, 1, none⟩))) rfl (by kernel_rfl) (by kernel_rfl) (by kernel_rfl) (fun _ _ _ h => h) ?_ ⟨Or.inl ⟨by rfl, ?_⟩⟩ ?_
            · exact hC
            · intro W hW; obtain ⟨c0, c1, c2, c4⟩ := HC.out W hW; go_simp
            refine wpAnyP_take (i := 2) (v := (.int .u16 rt)) rfl (by kernel_rfl) (by kernel_rfl) (by kernel_rfl) (fun _ _ _ h => h) ?_ ⟨Or.inl ⟨by rfl, ?_⟩⟩ ?_
            · exact hC
            · intro W hW; obtain ⟨c0, c1, c2, c4⟩ := HC.out W hW; go_simp
            refine wpAnyP_take (i := 3) (v := (.pointer (some ⟨w.heap.size, 2, none⟩))) rfl (by kernel_rfl) (by kernel_rfl) (by kernel_rfl) (fun _ _ _ h => h) ?_ ⟨Or.inl ⟨by rfl, ?_⟩⟩ ?_
            · exact hC
            · intro W hW; obtain ⟨c0, c1, c2, c4⟩ := HC.out W hW; go_simp
            refine wpAnyP_take (i := 4) (v := (.int .u16 1)) rfl (by kernel_rfl) (by kernel_rfl) (by kernel_rfl) (fun _ _ _ h => h) ?_ ⟨Or.inl ⟨by rfl, ?_⟩⟩ ?_
            · exact hC
            · intro W hW; obtain ⟨c0, c1, c2, c4⟩ := HC.out W hW; go_simp
            refine wpAnyP_take (i := 5) (v := (.pointer (some ⟨w.heap.size, 1, none⟩))) rfl (by kernel_rfl) (by kernel_rfl) (by kernel_rfl) (fun _ _ _ h => h) ?_ ⟨Or.inl ⟨by rfl, ?_⟩⟩ ?_
            · exact hC
            · intro W hW; obtain ⟨c0, c1, c2, c4⟩ := HC.out W hW; go_simp
            refine wpAnyP_take (i := 6) (v := (.int .u16 rt)) rfl (by kernel_rfl) (by kernel_rfl) (by kernel_rfl) (fun _ _ _ h => h) ?_ ⟨Or.inl ⟨by rfl, ?_⟩⟩ ?_
            · exact hC
            · intro W hW; obtain ⟨c0, c1, c2, c4⟩ := HC.out W hW; go_simp
            refine wpAnyP_take (i := 7) (v := (.pointer (some ⟨w.heap.size, 4, none⟩))) rfl (by kernel_rfl) (by kernel_rfl) (by kernel_rfl) (fun _ _ _ h => h) ?_ ⟨Or.inl ⟨by rfl, ?_⟩⟩ ?_
            · exact hC
            · intro W hW; obtain ⟨c0, c1, c2, c4⟩ := HC.out W hW; go_simp
            refine wpAnyP_take (i := 8) (v := (.string rd)) rfl (by kernel_rfl) (by kernel_rfl) (by kernel_rfl) (fun _ _ _ h => h) ?_ ⟨Or.inl ⟨by rfl, ?_⟩⟩ ?_
            · exact hC
            · intro W hW; obtain ⟨c0, c1, c2, c4⟩ := HC.out W hW; go_simp
            refine wpAnyP_ready (rs := [9, 11]) (by kernel_rfl) (by simp) ?_
            refine AllReadyP.cons rfl (fun K hK => ?_) (AllReadyP.cons rfl (fun K hK => ?_) AllReadyP.nil)
            · go_simp
              refine (HFJ.out _).mono ?_
              rintro e W1 ⟨rfl, hb1⟩
              have hb1' : Below w6.heap.size w6 W1 := hC.trans hb1
              have hs1 := hb1'.size
              refine hK _ _ hb1' ?_
              clear hK K hb1
              refine wpAnyP_take (i := 10) (v := (.agg #[.string fn, .int .u16 rt, .int .u16 1, .string fd])) rfl (by kernel_rfl) (by kernel_rfl) (by kernel_rfl) (fun _ _ _ h => h) ?_ ⟨Or.inl ⟨by rfl, ?_⟩⟩ ?_
              · exact hb1'
              · intro W hW; go_simp
              refine wpAnyP_ready (rs := [11]) (by kernel_rfl) (by simp) ?_
              refine AllReadyP.cons rfl (fun K hK => ?_) AllReadyP.nil
              go_simp
              refine hK _ _ (hb1'.alloc hs1 _) ?_
              clear hK K
              refine wpAnyP_ready (rs := [12]) (by kernel_rfl) (by simp) ?_
              refine AllReadyP.cons rfl (fun K hK => ?_) AllReadyP.nil
              go_simp
              refine hK _ _ (hb1'.alloc hs1 _) ?_
              clear hK K
              refine wpAnyP_done (by kernel_rfl) ?_ _
              exact REST _ _ (Blk.new _ _ _) (hb1'.alloc hs1 _) hs1
            · go_simp
              have hC2 : Below w6.heap.size w6 (w6.alloc (.cells #[.string ⟨#[]⟩, .int .u16 0, .int .u16 0, .string ⟨#[]⟩] 109)).drew := ((Below.refl _ _).alloc (Nat.le_refl _) _).drew
              refine hK _ _ hC2 ?_
              clear hK K
              refine wpAnyP_ready (rs := [9]) (by kernel_rfl) (by simp) ?_
              refine AllReadyP.cons rfl (fun K hK => ?_) AllReadyP.nil
              go_simp
              refine (HFJ.out _).mono ?_
              rintro e W1 ⟨rfl, hb1⟩
              have hb1' : Below w6.heap.size w6 W1 := hC2.trans (hb1.mono (by simp))
              have z1 : Blk W1 w6.heap.size 109 #[.string ⟨#[]⟩, .int .u16 0, .int .u16 0, .string ⟨#[]⟩] := by
                have h2 : Blk (w6.alloc (.cells #[.string ⟨#[]⟩, .int .u16 0, .int .u16 0, .string ⟨#[]⟩] 109)).drew w6.heap.size 109 #[.string ⟨#[]⟩, .int .u16 0, .int .u16 0, .string ⟨#[]⟩] := Blk.new _ _ _
                exact h2.below hb1 (by simp)
              refine hK _ _ hb1' ?_
              clear hK K hb1
              refine wpAnyP_take (i := 10) (v := (.agg #[.string fn, .int .u16 rt, .int .u16 1, .string fd])) rfl (by kernel_rfl) (by kernel_rfl) (by kernel_rfl) (fun _ _ _ h => h) ?_ ⟨Or.inl ⟨by rfl, ?_⟩⟩ ?_
              · exact hb1'
              · intro W hW; go_simp
              have c0 := z1.cell 0
              have f0 := z1.frozen 0
              have c1 := z1.cell 1
              have f1 := z1.frozen 1
              have c2 := z1.cell 2
              have f2 := z1.frozen 2
              have c3 := z1.cell 3
              have f3 := z1.frozen 3
              refine wpAnyP_ready (rs := [12]) (by kernel_rfl) (by simp) ?_
              refine AllReadyP.cons rfl (fun K hK => ?_) AllReadyP.nil
              go_simp
              have hb2 : Below w6.heap.size w6 ((((W1.setCell ⟨w6.heap.size, 0, none⟩ (.string fn)).setCell ⟨w6.heap.size, 1, none⟩ (.int .u16 rt)).setCell ⟨w6.heap.size, 2, none⟩ (.int .u16 1)).setCell ⟨w6.heap.size, 3, none⟩ (.string fd)) := (((hb1'.setCell (Nat.le_refl _) _).setCell (Nat.le_refl _) _).setCell (Nat.le_refl _) _).setCell (Nat.le_refl _) _
              refine hK _ _ hb2 ?_
              clear hK K
              refine wpAnyP_done (by kernel_rfl) ?_ _
              exact REST _ _ ((((z1.set_ 0 _).set_ 1 _).set_ 2 _).set_ 3 _) hb2 (Nat.le_refl _)
          · have hwi' : withinB rn.data.toList z.data.toList = false := by simpa using hwi
            have HWB := Lib.hid hwi'
            rw [hwi']
            clear hwi hwi'
            go_wp2_with (fail)
            go_ret
            have hn : takeB z.data.toList pre ⟨rn, rt, 1, rl, rd⟩ = false := by
              have h9 : withinB (RRec.nb ⟨rn, rt, 1, rl, rd⟩) z.data.toList = false := HWB.out
              simp [takeB, h9]
            exact ⟨by rw [hn]; rfl, (fun e => by rw [hn] at e; cases e), KeepK.of_below (H5.out.1) fun i h => h.1⟩
        · have hk0 : chkR ⟨rn, rt, 1, rl, rd⟩ = false := by simpa using hk
          rw [codeR_no hk0] at HCK
          refine wp_region_low (by kernel_rfl) (by kernel_rfl) ?_
          repeat (refine low_step (fun K hK => ?_); go_simp; first | (refine hK _ ?_; clear hK K) | (apply Exists.intro; refine ⟨fun _ => ?_, hK _ ?_⟩; (go_at_call 45; exact calls_low (HCK.out _)); clear hK K))
          refine low_nil ?_
          rintro ⟨W5, hb5⟩
          dsimp only
          clear c0 c1 c2 c3 c4 v0
          go_wp2_with (fail)
          go_ret
          have hn : takeB z.data.toList pre ⟨rn, rt, 1, rl, rd⟩ = false := by simp [takeB, hk0]
          exact ⟨by rw [hn]; rfl, (fun e => by rw [hn] at e; cases e), KeepK.of_below (H1.out.1.trans (hb5.mono H1.out.1.size)) fun i h => h.1⟩
  · have e4 : (rc != 1) = true := by simp [hc]
    go_wp2_with (fail)
    go_ret
    have hn : takeB z.data.toList pre ⟨rn, rt, rc, rl, rd⟩ = false := by simp [takeB, hc]
    exact ⟨by rw [hn]; rfl, (fun e => by rw [hn] at e; cases e), KeepK.of_below ((Below.refl _ _).alloc (Nat.le_refl _) _) fun i h => h.1⟩
end Go.Proofs.YthnngndnpigjbaaGreat
