/- The walk of pending.Add. Conditions: none. -/
import Derived.Test.YthjkdpphbipgfaaPendD
import Derived.Test.YthjkdpphbipgfaaMapE
import Derived.Deep.RegionHeld3
import Derived.Deep.RegionLaw
import Derived.Deep.DeepCutAuto
import Derived.Deep.CutBlock
import Derived.Deep.QuietTactic
import Derived.BigQuiet
namespace Go.Proofs.Ythjkdpphbipgfaa
open Go.RowKit Go.Shelf Go.Lib

theorem sl_row1 (w : World) (t : TypeId) (cs : List Value) (h : ∀ u ∈ cs, u.oneCell' = true) : Sl (w.alloc (.cells cs.toArray t)) cs.length (.slice (some ⟨w.heap.size, 0, none⟩) 1 1) 1 cs := by
  have B := Blk.new w t cs.toArray
  refine ⟨by simp, .inr ⟨w.heap.size, 1, rfl, by simp, Nat.le_refl _, by unfold maxLen; omega, fun j hj => ⟨?_, B.frozen j⟩, fun j u hu => ?_⟩⟩
  · rw [B.cell j]
    rw [Nat.one_mul] at hj
    simp [hj]
  · rw [B.cell j]
    simpa using hu
theorem info_qy : (Try.prog.info? 65).map (fun i => (i.zero, i.size, i.bytes)) = some (some (.agg #[.int .u16 0, .int .u16 0, .int .u32 0, .string ⟨#[]⟩, .int .u16 0, .int .u16 0, .string ⟨#[]⟩, .bool false, .int .i64 0, .int .i64 0]), 10, 72) := by kernel_rfl
theorem q_one (q : QY) : ∀ u ∈ q.vs, u.oneCell' = true := by
  intro u hu
  simp only [QY.vs, List.mem_cons, List.not_mem_nil, or_false] at hu
  rcases hu with rfl | rfl | rfl | rfl | rfl | rfl | rfl | rfl | rfl | rfl <;> rfl
def KeepT (w : World) (g mb : Nat) (o : Option Nat) (w' : World) : Prop := KeepK (fun b => b < w.heap.size ∧ b ≠ g ∧ b ≠ mb ∧ o ≠ some b) w w'
def AddP0 (w : World) (g mb : Nat) (A : Option Addr) (c : Nat) (xs : List QY) (m : Nat) (e : Ending) (w' : World) : Prop :=
  ∃ z A' c' xs', e = .returned (.int .i64 z) ∧ PT w' g mb A' c' xs' m ∧ KeepT w g mb (Value.slice A xs.length c).ownBlock w' ∧ ∀ b, (Value.slice A' xs'.length c').ownBlock = some b → (Value.slice A xs.length c).ownBlock = some b ∨ w.heap.size ≤ b
/-- What Add leaves. -/
def AddP (w : World) (g mb : Nat) (A : Option Addr) (c : Nat) (xs : List QY) (n : Nat) (e : Ending) (w' : World) : Prop := AddP0 w g mb A c xs (n + 1) e w'
theorem PT.more {w : World} {g mb n : Nat} {A : Option Addr} {c : Nat} {xs : List QY} (h : PT w g mb A c xs n) (hn : n < 64) : PT w g mb A c xs (n + 1) := by
  obtain ⟨F, m1, m2⟩ := h.mp
  exact ⟨h.bx, h.it, ⟨F, m1.mono (Nat.le_succ _), m2⟩, h.ne, h.ok, ⟨hn, by have := h.nb; omega⟩⟩
theorem PT.stay {w w' : World} {g mb n : Nat} {A : Option Addr} {c : Nat} {xs : List QY} (h : PT w g mb A c xs n) (hn : n < 64) (hb : Below w.heap.size w w') (z : Int) : AddP w g mb A c xs n (.returned (.int .i64 z)) w' :=
  ⟨z, A, c, xs, rfl, (h.below hb).more hn, KeepK.of_below hb fun _ hi => hi.1, fun _ hb => .inl hb⟩
theorem PT.push {w W5 w8 : World} {g mb m : Nat} {A A5 : Option Addr} {c c5 : Nat} {xs : List QY} (h : PT W5 g mb A c xs m) {q : QY} (hq : q.Ok) (hm : xs.length + 1 ≤ m) (hk : KeepK (fun b => b < w.heap.size ∧ b ≠ mb) w W5) {o : Obj}
    (hs : Sl w8 10 (.slice A5 (xs.length + 1) c5) (xs.length + 1) (flatV QY.vs xs ++ q.vs)) (hg : (W5.drew.alloc o).grownBy w8 (Value.slice A xs.length c).ownBlock)
    (hv : (Value.slice A5 (xs.length + 1) c5).ownBlock = (Value.slice A xs.length c).ownBlock ∨ (Value.slice A5 (xs.length + 1) c5).ownBlock = some (W5.drew.alloc o).heap.size) (z : Int) :
    AddP0 w g mb A c xs m (.returned (.int .i64 z)) (w8.setCell ⟨g, 1, none⟩ (.slice A5 (xs.length + 1) c5)) := by
  have hl : (xs ++ [q]).length = xs.length + 1 := by simp
  have hz := hk.size
  have hgl := h.bx.lt
  obtain ⟨F, m1, m2⟩ := h.mp
  have hml := m1.lt
  have hfr : (W5.drew.alloc o).heap.size = W5.heap.size + 1 := World.size_alloc _ _
  have hg1 := hg.size
  rw [hfr] at hg1 hv
  have hne : ∀ b, (Value.slice A5 (xs.length + 1) c5).ownBlock = some b → b ≠ g ∧ b ≠ mb ∧ ((Value.slice A xs.length c).ownBlock = some b ∨ W5.heap.size ≤ b) := fun b hb => by
    rcases hv with e | e
    · rw [e] at hb
      exact ⟨(h.ne.2 b hb).1, (h.ne.2 b hb).2, .inl hb⟩
    · rw [e] at hb
      injection hb with hb
      exact ⟨by omega, by omega, .inr (by omega)⟩
  refine ⟨z, A5, c5, xs ++ [q], rfl, ?_, ?_, fun b hb => ?_⟩
  · rw [← hl] at hs hne ⊢
    refine ⟨?_, ?_, ⟨F, ((((m1.drewN 1).alloc o).grown hg fun e => (h.ne.2 mb e.symm).2 rfl).far (fun e => h.ne.1 e.symm) _), m2⟩, ⟨h.ne.1, fun b hb => ⟨(hne b hb).1, (hne b hb).2.1⟩⟩, fun y hy => ?_, ⟨h.nb.1, by rw [hl]; omega⟩⟩
    · have := ((h.bx.drew.alloc o).grown hg (fun e => (h.ne.2 g e.symm).1 rfl)).set_ 1 (.slice A5 (xs ++ [q]).length c5)
      simpa using this
    · have := hs.far (p := ⟨g, 1, none⟩) (fun b hb => (hne b hb).1) (.slice A5 (xs ++ [q]).length c5)
      have hf : flatV QY.vs (xs ++ [q]) = flatV QY.vs xs ++ q.vs := by rw [flatV_append]; simp [flatV]
      rw [hf]
      exact this
    · rcases List.mem_append.1 hy with hy | hy
      · exact h.ok y hy
      · rw [List.mem_singleton.1 hy]
        exact hq
  · have k1 : KeepK (fun b => b < w.heap.size ∧ b ≠ g ∧ b ≠ mb ∧ (Value.slice A xs.length c).ownBlock ≠ some b) w W5 := KeepK.mono hk fun b hb => ⟨hb.1, hb.2.2.1⟩
    exact ((k1.drew.alloc (fun b hb => show b < W5.heap.size from Nat.lt_of_lt_of_le hb.1 hz) o).grown hg (fun b hb => by have := hb.1; omega) (fun b hb e => hb.2.2.2 e.symm)).setCell (p := ⟨g, 1, none⟩) (fun b hb => hb.2.1) _
  · rw [hl] at hb
    rcases (hne b hb).2.2 with e | e
    · exact .inl e
    · exact .inr (by omega)
set_option maxHeartbeats 4000000 in
set_option maxRecDepth 100000 in
theorem padd_any {w : World} {g mb n : Nat} {A : Option Addr} {c : Nat} {xs : List QY} (h : PT w g mb A c xs n) (hn : n < 64) (q : QY) (hq : q.Ok) :
    Calls Try.prog 31 #[.pointer (some ⟨g, 0, none⟩), q.val] w (AddP w g mb A c xs n) := by
  obtain ⟨i0, hi0, hz0, hz1, hz2⟩ := info_parts info_qy
  obtain ⟨z, hz01, hz⟩ := h.look (t := q.tcp) hq.i hq.p hq.a
  have HLK := Lib.hid hz
  have H := Lib.hid (And.intro h (And.intro hn hq))
  have HC := Lib.hid (fun W => Check_any q.n hq.n W)
  have HP := Lib.hid (fun W => placeOf_any q W)
  have hgl := h.bx.lt
  clear h hz hq
  dsimp only [QY.val, plV] at HP ⊢
  go_enter Try.func31, Try.ntmps31
  go_wp2_with (fail)
  obtain ⟨V, hV⟩ : ∃ V, w.alloc (.cells #[.int .u16 q.i, .int .u16 q.p, .int .u32 q.a, .string q.n, .int .u16 q.ty, .int .u16 q.cl, .string q.ck, .bool q.tcp, .int .i64 q.du, .int .i64 q.ta] 65) = V := ⟨_, rfl⟩
  have HV := Lib.hid (show Below w.heap.size w V ∧ Blk V w.heap.size 65 #[.int .u16 q.i, .int .u16 q.p, .int .u32 q.a, .string q.n, .int .u16 q.ty, .int .u16 q.cl, .string q.ck, .bool q.tcp, .int .i64 q.du, .int .i64 q.ta] from by
    rw [← hV]; exact ⟨(Below.refl _ _).alloc (Nat.le_refl _) _, Blk.new _ _ _⟩)
  rw [hV]
  clear hV
  with_reducible refine (HC.out _).mono ?_
  rintro e w1 ⟨rfl, hb⟩
  have H1 := Lib.hid (And.intro (HV.out.1.trans (hb.mono HV.out.1.size)) (HV.out.2.below hb HV.out.2.lt))
  obtain ⟨cz, hcz⟩ : ∃ cz, chkN q.n.data.toList = cz := ⟨_, rfl⟩
  rw [hcz]
  clear hb HV HC hcz
  by_cases hc0 : cz = 0
  · have e0 : (cz != 0) = false := by simp [hc0]
    clear hc0
    have s6 := H1.out.2.cell 6
    by_cases hck : q.ck.size = 8
    · have e1 : ((q.ck.size : Int) != 8) = false := by rw [hck]; rfl
      clear hck
      have s0 := H1.out.2.cell 0; have s1 := H1.out.2.cell 1; have s2 := H1.out.2.cell 2; have s3 := H1.out.2.cell 3; have s4 := H1.out.2.cell 4; have s5 := H1.out.2.cell 5; have s7 := H1.out.2.cell 7; have s8 := H1.out.2.cell 8; have s9 := H1.out.2.cell 9
      have g2 := (H.out.1.bx.below H1.out.1 H.out.1.bx.lt).cell 2
      have R1 : Below w1.heap.size w1 w1 := Below.refl _ _
      have HP' := Lib.hid (fun W (hW : Below w1.heap.size w1 W) => (HP.out W).mono fun e w' (h : _ ∧ _) => And.intro h.1 (hW.trans (h.2.mono hW.size)))
      have HL' := Lib.hid (fun W (hW : Below w1.heap.size w1 W) => And.intro (HLK.out W (H1.out.1.trans (hW.mono H1.out.1.size))) ((H.out.1.bx.below (H1.out.1.trans (hW.mono H1.out.1.size)) H.out.1.bx.lt).cell 2))
      go_wp2_with (fail)
      go_cut [18] (fun v18 wx => v18 = .bool (decide (0 < z)) ∧ Aside (Below w1.heap.size w1 wx))
      case first =>
        first | (go_region_with (go_at_call 66; refine (HP'.out _ (by first | exact R1 | exact R1.drew | exact R1.drew.drew | exact R1.drew.drew.drew)).mono ?_; rintro e w2 ⟨rfl, hb⟩; obtain ⟨hlk, g2'⟩ := HL'.out _ hb)) | (fail "no way")
        all_goals
          go_wp2_with (fail)
          go_meet
          exact ⟨rfl, by assumption⟩
      case rest =>
        obtain ⟨rfl, hbx⟩ := hcut
        obtain ⟨W2, hW2⟩ : ∃ W2, W2 = wc := ⟨_, rfl⟩
        subst hW2
        have H2 := Lib.hid (And.intro (H1.out.1.trans (hbx.out.mono H1.out.1.size)) (And.intro (H1.out.2.below hbx.out H1.out.2.lt) (H.out.1.below (H1.out.1.trans (hbx.out.mono H1.out.1.size)))))
        clear HP' HL' H1 g2 R1 hbx s0 s1 s2 s3 s4 s5 s6 s7 s8 s9
        rcases hz01 with rfl | rfl
        · have q1 : decide ((0 : Int) < 0) = false := by decide
          have g0 := H2.out.2.2.bx.cell 0
          have g1 := H2.out.2.2.bx.cell 1
          have hxl : ¬ (64 : Int) ≤ (xs.length : Int) := by have := H.out.1.nb; omega
          rw [q1]
          go_wp2_with (fail)
          go_quiet (fail)
          obtain ⟨W, hW⟩ : ∃ W, W2.drewN nq = W := ⟨_, rfl⟩
          have hVW : Below W2.heap.size W2 W := by rw [← hW]; exact below_drewN (Below.refl _ _) nq
          rw [hW]
          have H3 := Lib.hid (And.intro (H2.out.1.trans (hVW.mono H2.out.1.size)) (And.intro (H2.out.2.1.below hVW H2.out.2.1.lt) (H2.out.2.2.below hVW)))
          clear hW hVW H2 g0 g1
          have s0 := H3.out.2.1.cell 0; have s1 := H3.out.2.1.cell 1; have s2 := H3.out.2.1.cell 2; have s3 := H3.out.2.1.cell 3; have s4 := H3.out.2.1.cell 4; have s5 := H3.out.2.1.cell 5; have s6 := H3.out.2.1.cell 6; have s7 := H3.out.2.1.cell 7; have s8 := H3.out.2.1.cell 8; have s9 := H3.out.2.1.cell 9
          have g2 := H3.out.2.2.bx.cell 2
          have R1 : Below W.heap.size W W := Below.refl _ _
          have HP' := Lib.hid (fun X (hX : Below W.heap.size W X) => (HP.out X).mono fun e w' (h : _ ∧ _) => And.intro h.1 (hX.trans (h.2.mono hX.size)))
          have hw1 : IntKind.i64.wrap 1 = 1 := by decide
          have HL' := Lib.hid (fun X (hX : Below W.heap.size W X) => show ((Instr.lookup 113 (.map (some mb)) (.agg #[.int .u16 q.i, .int .u16 q.p, .int .u32 q.a, .bool q.tcp]) false).run Try.prog X = .ok (.int .i64 0) X ∧ X.cell? ⟨g, 2, none⟩ = some (.map (some mb)) ∧ ∃ Y1 Y st, (Instr.mapEntry 113 (.map (some mb)) (.agg #[.int .u16 q.i, .int .u16 q.p, .int .u32 q.a, .bool q.tcp])).run Try.prog X = .ok (.tuple #[.int .i64 0, st]) Y1 ∧ (Instr.entryStore 113 (.map (some mb)) st (.int .i64 1)).run Try.prog Y1 = .ok () Y ∧ (Instr.lookup 113 (.map (some mb)) (.agg #[.int .u16 q.i, .int .u16 q.p, .int .u32 q.a, .bool q.tcp]) false).run Try.prog Y1 = .ok (.int .i64 0) Y1 ∧ PT Y g mb A c xs (n + 1) ∧ X.grownBy Y (some mb)) from by
            have hXX := H3.out.1.trans (hX.mono H3.out.1.size)
            have HX := H3.out.2.2.below hX
            have hlk := HLK.out X hXX
            refine ⟨hlk, HX.bx.cell 2, ?_⟩
            obtain ⟨F, m1, m2⟩ := HX.mp
            obtain ⟨kl, hk, hkk, hself⟩ := keyOf_place q.i q.p q.a q.tcp H.out.2.2.i H.out.2.2.p H.out.2.2.a
            have hFn : F kl = none := by
              cases hF : F kl with
              | none => rfl
              | some v =>
                have h1 := m1.look place_keyed Try.underlying113 (zero_int2 X) hk
                rw [hF, m2 kl v hF, hlk] at h1
                injection h1 with h1
                injection h1 with _ h1
                cases h1
            obtain ⟨Y1, Y, st, r1, r2, M1, hY, _, hg, _⟩ := m1.entry_new place_keyed Try.underlying113 (by unfold maxLen; omega) hk hkk hFn (zero_int2 X) (.int .i64 1)
            have r3 := M1.look place_keyed Try.underlying113 (zero_int2 Y1) hk
            simp only [hself, if_true, Option.getD_some] at r3
            refine ⟨Y1, Y, st, r1, r2, r3, ⟨HX.bx.grown hg (by have := HX.ne.1; intro e; injection e; omega), HX.it.keep hg.size fun k hk2 => hg.block k (HX.it.lt k hk2) (fun e => (HX.ne.2 k hk2).2 (by injection e)), ⟨_, hY, fun k v hv => ?_⟩, HX.ne, HX.ok, ⟨by omega, by have := HX.nb; omega⟩⟩, hg⟩
            split at hv
            · injection hv with hv
              exact hv.symm
            · exact m2 k v hv)
          have hmb : mb < w.heap.size := by obtain ⟨F, m1, _⟩ := H.out.1.mp; exact m1.lt
          go_wp2_with (fail)
          go_cut [] (fun wx => Aside (PT wx g mb A c xs (n + 1) ∧ Blk wx w.heap.size 65 #[.int .u16 q.i, .int .u16 q.p, .int .u32 q.a, .string q.n, .int .u16 q.ty, .int .u16 q.cl, .string q.ck, .bool q.tcp, .int .i64 q.du, .int .i64 q.ta] ∧ KeepK (fun b => b < w.heap.size ∧ b ≠ mb) w wx))
          case first =>
            first | (go_region_with (go_at_call 66; refine (HP'.out _ (by first | exact R1 | exact R1.drew | exact R1.drew.drew | exact R1.drew.drew.drew)).mono ?_; rintro e w6 ⟨rfl, hb⟩; obtain ⟨hlk, g2', w6b, w7, st, hst1, hst2, hlk2, hpt, hgr⟩ := HL'.out _ hb; have H7 := Lib.hid (And.intro hpt (And.intro hb hgr)); clear hpt hb hgr)) | (fail "no way")
            all_goals
              go_wp2_with (fail)
              go_meet
              exact ⟨H7.out.1, (H3.out.2.1.below H7.out.2.1 H3.out.2.1.lt).grown H7.out.2.2 (by intro e; injection e; omega), ((KeepK.of_below H3.out.1 fun b hb => hb.1).trans (KeepK.of_below H7.out.2.1 fun b hb => Nat.lt_of_lt_of_le hb.1 H3.out.1.size)).grown H7.out.2.2 (fun b hb => Nat.lt_of_lt_of_le hb.1 (Nat.le_trans H3.out.1.size H7.out.2.1.size)) (fun b hb e => hb.2 (by injection e))⟩
          case rest =>
            obtain ⟨W5, hW5⟩ : ∃ W5, W5 = wc := ⟨_, rfl⟩
            subst hW5
            have H5 := Lib.hid hcut.out
            clear hcut HP' HL' R1 g2 s0 s1 s2 s3 s4 s5 s6 s7 s8 s9 H3
            have s0 := H5.out.2.1.cell 0; have s1 := H5.out.2.1.cell 1; have s2 := H5.out.2.1.cell 2; have s3 := H5.out.2.1.cell 3; have s4 := H5.out.2.1.cell 4; have s5 := H5.out.2.1.cell 5; have s6 := H5.out.2.1.cell 6; have s7 := H5.out.2.1.cell 7; have s8 := H5.out.2.1.cell 8; have s9 := H5.out.2.1.cell 9
            have g1 := H5.out.1.bx.cell 1
            have hgl5 := H5.out.1.bx.lt
            have hwl5 := H5.out.2.1.lt
            have hz5 := H5.out.2.2.size
            have HSL := Lib.hid (show Sl (W5.drew.alloc (.cells #[.int .u16 q.i, .int .u16 q.p, .int .u32 q.a, .string q.n, .int .u16 q.ty, .int .u16 q.cl, .string q.ck, .bool q.tcp, .int .i64 q.du, .int .i64 q.ta] 65)) 10 (.slice A xs.length c) xs.length (flatV QY.vs xs) from H5.out.1.it.drew.alloc _)
            have HSR := Lib.hid (show Src Try.prog 10 58 (.slice (some ⟨W5.heap.size, 0, none⟩) 1 1) 1 q.vs (W5.drew.alloc (.cells #[.int .u16 q.i, .int .u16 q.p, .int .u32 q.a, .string q.n, .int .u16 q.ty, .int .u16 q.cl, .string q.ck, .bool q.tcp, .int .i64 q.du, .int .i64 q.ta] 65)) from src_own Try.underlying58 (sl_row1 W5.drew 65 q.vs (q_one q)) (q_one q))
            have HFR := Lib.hid (fun Y (hg : (W5.drew.alloc (.cells #[.int .u16 q.i, .int .u16 q.p, .int .u32 q.a, .string q.n, .int .u16 q.ty, .int .u16 q.cl, .string q.ck, .bool q.tcp, .int .i64 q.du, .int .i64 q.ta] 65)).grownBy Y (Value.slice A xs.length c).ownBlock) => show Blk Y g 115 #[.int .i64 64, .slice A xs.length c, .map (some mb)] from (H5.out.1.bx.drew.alloc _).grown hg (fun e => (H5.out.1.ne.2 g e.symm).1 rfl))
            have hxl2 : xs.length ≤ 64 := by have := H.out.1.nb; omega
            go_wp2_with (fail)
            go_region_law (refine step_append_sl _ (by rfl) (.tmp 52) (.tmp 54) 58 58 rfl 65 i0 (.agg #[.int .u16 0, .int .u16 0, .int .u32 0, .string ⟨#[]⟩, .int .u16 0, .int .u16 0, .string ⟨#[]⟩, .bool false, .int .i64 0, .int .i64 0]) 10 72 Try.underlying58 hi0 hz0 hz1 hz2 rfl (.slice A xs.length c) xs.length _ rfl HSL.out (.slice (some ⟨W5.heap.size, 0, none⟩) 1 1) rfl 1 _ HSR.out (by unfold maxLen; omega) (by omega) ?_; intro v5 w8 hs5 hg5 hv5; obtain ⟨A5, c5, rfl, hc5, hm5⟩ := hs5.shape; have e5 := (HFR.out _ hg5).cell 1; have q5 := (HFR.out _ hg5).frozen 1; have H8 := Lib.hid (And.intro hs5 (And.intro hg5 hv5)); clear hs5 hg5 hv5 hc5 hm5)
            all_goals
              go_wp2_with (fail)
              go_ret
              exact H5.out.1.push H.out.2.2 (by have := H.out.1.nb; omega) H5.out.2.2 H8.out.1 H8.out.2.1 H8.out.2.2 _
        · have q1 : decide ((0 : Int) < 1) = true := by decide
          rw [q1]
          go_wp2_with (fail)
          go_ret
          exact H.out.1.stay H.out.2.1 H2.out.1 _
    · have e1 : ((q.ck.size : Int) != 8) = true := by
        simp only [bne_iff_ne, ne_eq]
        omega
      clear hck
      go_wp2_with (fail)
      go_ret
      exact H.out.1.stay H.out.2.1 H1.out.1 _
  · have e0 : (cz != 0) = true := by simp [hc0]
    clear hc0
    go_wp2_with (fail)
    go_ret
    exact H.out.1.stay H.out.2.1 H1.out.1 _
end Go.Proofs.Ythjkdpphbipgfaa
