/- The walk of sets.Of. Conditions: none. -/
import Derived.Test.YtfipacfompihkaaOfM
import Derived.Test.YtfipacfompihkaaMsgSmall
import Derived.Test.YtfipacfompihkaaNear
import Derived.Test.YtfipacfompihkaaBuild
import Derived.Test.YtfipacfompihkaaRegC
import Derived.Test.YtfipacfompihkaaIxSymG
import Derived.Deep.DeepCutAuto
import Derived.Sort.CutIn
namespace Go.Proofs.Ytfipacfompihkaa
open Go.RowKit Go.Lib
attribute [local go_sem] Oper.semAt_some

theorem info_set : (Try.prog.info? 49).map (fun i => (i.zero, i.size, i.bytes)) = some (some (.agg #[.string ⟨#[]⟩, .int .u16 0, .int .u32 0, .slice none 0 0]), 4, 48) := by kernel_rfl
theorem stepIn_append_sl {P : Program} {w : World} {F : Fence} {n' : Nat} {ops : Array Oper} {o : Oper} {a : Act} {K : Act → World → Prop} {Q : Exit → Act → World → Prop} {E : Prop} (hgd : o.guard = none) (s x : Operand) (t tx : TypeId)
    (ho : o.op = .call { callee := .builtin .append, args := #[s, x], argTypes := #[t, tx] })
    (e : TypeId) (i : TypeInfo) (z : Value) (size bytes : Nat) (ht : P.underlying t = some (.slice e)) (hi : P.info? e = some i) (hz : i.zero = some z)
    (hsize : i.size = size) (hby : i.bytes = bytes) (hzs : z.cells.size = size)
    (v : Value) (n : Nat) (xs : List Value) (hs : a.eval s = v) (hown : Sl w size v n xs) (y : Value) (hx : a.eval x = y) (m : Nat) (news : List Value) (hsrc : Src P size tx y m news w)
    (h63 : n + m ≤ maxLen) (hbytes : (n + m) * bytes ≤ 140737488355328)
    (h : ∀ v' w', Sl w' size v' (n + m) (xs ++ news) → w.grownBy w' v.ownBlock → (v'.ownBlock = v.ownBlock ∨ v'.ownBlock = some w.heap.size) → K (a.put o.dst v') w') :
    if Region.wanted o (yielded ops a.tmps) = true then Oper.wpIn F n' P o a w K Q else E := by
  have hw : Region.wanted o (yielded ops a.tmps) = true := by simp [Region.wanted, hgd]
  rw [if_pos hw]
  obtain ⟨v', w', hrun, h2, h3, h4⟩ := run_append_sl (P := P) w t tx o.type e i z size bytes ht hi hz hsize hby hzs v n xs hown y m news hsrc h63 hbytes
  unfold Oper.wpIn
  refine ⟨?_, ?_⟩
  · simp [Oper.about, ho, resolve, Target.leads, Sem.run_pure]
  · rw [Oper.semAt_plain F _ _ (by rw [ho]; intro c hc'; cases hc')]
    simp [execOp, ho, resolve, invoke, builtin, hs, hx, hrun, Result.andThen]
    exact h v' w' h2 h3 h4
theorem src_set (w : World) (s : SRec) : Src Try.prog 4 69 (.slice (some ⟨w.heap.size, 0, none⟩) 1 1) 1 s.vs (w.alloc (.cells #[.string s.n, .int .u16 s.t, .int .u32 s.l, .slice s.A s.xs.length s.c] 49)) :=
  src_own Try.underlying69 (sl_rowO w 49 s.vs) (by simp [SRec.vs, Value.oneCell'])
set_option maxRecDepth 100000 in
set_option maxHeartbeats 8000000 in
theorem of_any (xs : List RRec) (A : Option Addr) (c : Nat) (w : World) (hT : RTab w A xs) (hl : xs.length ≤ 100) (hs : ∀ r ∈ xs, r.small ∧ r.ok) :
    Calls Try.prog 25 #[.slice A xs.length c] w (OfP w) := by
  obtain ⟨i0, hi0, hz0, hz1, hz2⟩ := info_parts info_rr
  obtain ⟨j0, hj0, hy0, hy1, hy2⟩ := info_parts info_pls
  obtain ⟨s0, hs0, hv0, hv1, hv2⟩ := info_parts info_set
  obtain ⟨n, hn⟩ : ∃ n : Nat, 8 ≤ n := ⟨8, by omega⟩
  refine (callsIn_wide (n := n)).1 ?_
  have h1n : 1 ≤ n := by omega
  have hmm : ∀ W : World, (Instr.makeMap 128 none).run Try.prog W = .ok (.map (some W.heap.size)) (W.alloc (.map #[] 0)) := fun W => rfl
  refine callsIn_of_wp_marks Try.func25 rfl trivial ?_ rfl
  simp only [Try.ntmps25, List.size_toArray, List.length_cons, List.length_nil, Nat.reduceAdd, Nat.reduceSub, Array.replicate_succ, Array.replicate_zero, List.push_toArray, List.append_toArray, List.nil_append, List.cons_append]
  gi_wp2_with (fail)
  refine ⟨trivial, ?_⟩
  refine (callsIn_wide.2 (right_any A xs.length c _)).mono ?_
  rintro e w' ⟨rfl, rfl⟩
  gi_wp2_with (fail)
  obtain ⟨W0, hW0⟩ : ∃ W0, (((w.alloc (.map #[] 0)).alloc (.cells #[.map (some w.heap.size)] 128)).alloc (.cells #[.slice none 0 0] 129)).alloc (.cells #[.slice A xs.length c] 41) = W0 := ⟨_, rfl⟩
  have hsz0 : W0.heap.size = w.heap.size + 4 := by rw [← hW0]; simp
  have hbW : Below w.heap.size w W0 := by rw [← hW0]; exact ((((Below.refl _ _).alloc (Nat.le_refl _) _).alloc (by simp) _).alloc (by simp; omega) _).alloc (by simp; omega) _
  have k0 : MapV Try.prog 134 W0 w.heap.size 0 (fun _ => none) := by rw [← hW0]; exact (((MapV.made w _ _).alloc _).alloc _).alloc _
  have k1 : Blk W0 (w.heap.size + 1) 128 #[.map (some w.heap.size)] := by
    rw [← hW0]
    have := Blk.new (w.alloc (.map #[] 0)) 128 #[.map (some w.heap.size)]
    rw [World.size_alloc] at this
    exact (this.alloc _).alloc _
  have k2 : Blk W0 (w.heap.size + 1 + 1) 129 #[.slice none 0 0] := by
    rw [← hW0]
    have := Blk.new ((w.alloc (.map #[] 0)).alloc (.cells #[.map (some w.heap.size)] 128)) 129 #[.slice none 0 0]
    rw [World.size_alloc, World.size_alloc] at this
    exact this.alloc _
  have k3 : Blk W0 (w.heap.size + 1 + 1 + 1) 41 #[.slice A xs.length c] := by
    rw [← hW0]
    have := Blk.new (((w.alloc (.map #[] 0)).alloc (.cells #[.map (some w.heap.size)] 128)).alloc (.cells #[.slice none 0 0] 129)) 41 #[.slice A xs.length c]
    rw [World.size_alloc, World.size_alloc, World.size_alloc] at this
    exact this
  have hgs0 : GS W0 w.heap.size (w.heap.size + 1) (w.heap.size + 1 + 1) (W0.heap.size + 2) 0 none 0 [] (fun _ _ => none) :=
    ⟨k1, k2, ⟨_, k0, fun _ _ _ _ => rfl⟩, Sl.nil _ _, fun q hq => (by cases hq), fun _ _ _ h => (by cases h), fun _ _ _ _ _ _ _ h => (by cases h), ⟨⟨by omega, by omega, by omega⟩, by omega, by omega, by omega⟩⟩
  have hTW := hT.below hbW
  have hlow : 0 < xs.length → ∀ a, A = some a → a.block < w.heap.size := fun hp a ha => RTab.low hT hp a ha
  have hfit : ∀ e ∈ xs, e.n.size ≤ maxLen ∧ e.d.size ≤ 140737488355328 := fun e he => ⟨by have := (hs e he).1.1; unfold maxLen; omega, by have := (hs e he).1.2; omega⟩
  have hseq := right1_K (w.heap.size + 1 + 1 + 1) c A xs (fun i => i = w.heap.size + 1 + 1 + 1 ∨ (0 < xs.length ∧ ∃ a, A = some a ∧ i = a.block)) W0 k3 hTW (.inl rfl) (fun hp a ha => .inr ⟨hp, a, ha, rfl⟩) (by omega) hfit
  rw [hW0]
  clear hW0 k0 k1 k2 k3 hTW hfit hmm
  apply rangeKB (gf := 87) (lb := #[.pointer (some ⟨w.heap.size + 1 + 1 + 1, 0, none⟩)]) rfl (enters_of Try.func87 (by kernel_rfl) rfl) hseq
    (fun i hi => by rcases hi with rfl | ⟨hp, a, ha, rfl⟩; omega; have := hlow hp a ha; omega) (Below.refl _ _) (fun _ => rfl)
    (fun pre V => OfI w w.heap.size (w.heap.size + 1) (w.heap.size + 1 + 1) (W0.heap.size + 2) pre V ∧ W0.heap.size ≤ V.heap.size)
    (fun _ _ _ => False)
    ?hI (fun _ _ _ _ h => h.elim) ?h0 (fun x => .cells #[.string x.n, .int .u16 x.t, .int .u16 x.c, .int .u32 x.l, .string x.d] 77)
  case hI =>
    rintro pre A' B' ⟨⟨m, Ao, co, P, G, h1, h2, h3, h4⟩, h5⟩ ho
    exact ⟨⟨m, Ao, co, P, G, h1.keep ho.size fun i hi hj => ho.block i hi (by omega), h2, h3, ⟨ho.os.trans h4.os, ho.tape.trans h4.tape, ho.output.trans h4.output, Nat.le_trans h4.size ho.size, fun i hi => (ho.block i (by omega) (.inl (by omega))).trans (h4.block i hi)⟩⟩, Nat.le_trans h5 ho.size⟩
  case h0 =>
    exact ⟨⟨0, none, 0, [], _, hgs0, ⟨fun _ _ _ h => (by cases h), fun p hp => (by cases hp), fun _ _ _ h => (by cases h), List.Pairwise.nil, Nat.zero_le _⟩, Nat.zero_le _, hbW⟩, Nat.le_refl _⟩
  case hassign =>
    intro l x V g K0 hg hK0
    dsimp only [RRec.val]
    gi_wp2
    rw [← hg]
    exact hK0
  case hbody =>
    rintro l pre x gb V hgb hgs hgo ⟨U0, ⟨⟨m, Ao, co, P, G, u1, h2, h3, u4⟩, u5⟩, hgU, hoU⟩ hpre
    have h1 : GS V w.heap.size (w.heap.size + 1) (w.heap.size + 1 + 1) (W0.heap.size + 2) m Ao co P G := u1.keep hoU.size fun i hi hj => hoU.block i hi (by omega)
    have h4 : Below w.heap.size w V := ⟨hoU.os.trans u4.os, hoU.tape.trans u4.tape, hoU.output.trans u4.output, Nat.le_trans u4.size hoU.size, fun i hi => (hoU.block i (by omega) (.inl (by omega))).trans (u4.block i hi)⟩
    have h5 : W0.heap.size ≤ V.heap.size := Nat.le_trans u5 hoU.size
    have hog : ∀ q, (Value.slice Ao P.length co).ownBlock = some q → q < gb := fun q hq => by rw [hgU]; exact u1.os.lt q hq
    clear u1 u4 u5 hgU hoU
    have hG : Blk V gb 77 #[.string x.n, .int .u16 x.t, .int .u16 x.c, .int .u32 x.l, .string x.d] := hgo
    have hxm : x ∈ xs := by
      obtain ⟨r, hr⟩ := hpre
      have : x ∈ rightL xs := by rw [← hr]; simp
      exact (List.mem_filter.1 this).1
    have hxs := hs x hxm
    have x0 := hG.cell 0
    have x1 := hG.cell 1
    have x2 := hG.cell 2
    have x3 := hG.cell 3
    have x4 := hG.cell 4
    have hlp : pre.length < 100 := by
      have h9 := hpre.length_le
      have h8 : (rightL xs).length ≤ xs.length := List.length_filter_le _ _
      simp at h9; omega
    have HV := Lib.hid (And.intro h1 (And.intro h2 (And.intro h3 (And.intro h4 (And.intro h5 (And.intro hxs (And.intro hlp hG)))))))
    have HZ := Lib.hid (And.intro hsz0 (And.intro hgb (And.intro hgs (And.intro hlow hog))))
    clear h1 h2 h3 h4 hseq hpre hgo hxm hgs0 hbW hlow hsz0 hT hs hl hG hlp hxs h5 hog
    by_cases h41 : x.t = 41
    · have e41 : (x.t == 41) = true := by simp [h41]
      clear h41
      gi_wp2_with (fail)
      obtain ⟨h1, h2, h3, h4, h5, hxs, hlp, hG⟩ := HV.out
      exact ⟨KeepS.refl _ _, ⟨m, Ao, co, P, G, h1, h2.skip x, by rw [List.length_append]; simp; omega, h4⟩, h5⟩
    · have e41 : (x.t == 41) = false := by simp [h41]
      have H41 := Lib.hid h41
      clear h41
      obtain ⟨fn, hfn⟩ : ∃ fn : ByteArray, (⟨(foldB x.n.data.toList).toArray⟩ : ByteArray) = fn := ⟨_, rfl⟩
      have HFO := Lib.hid (fun W => CallsIn.inRound l ((callsIn_wide (n := n - 1 - 1 - 1)).2 (Fold_any x.n (by have := HV.out.2.2.2.2.2.1.1.1; omega) W)))
      rw [hfn] at HFO
      have HFN := Lib.hid hfn
      clear hfn
      gi_wp2_with (fail)
      rename_i K0 hK0
      have hb0 : gb < V.heap.size := (HV.out.2.2.2.2.2.2.2).lt
      have REST : ∀ (b6 : Nat) (W6 : World), Blk W6 b6 134 #[.string fn, .int .u16 x.t] → Below V.heap.size V W6 → V.heap.size ≤ b6 → K0 { tmps := (((.slice A xs.length c : Value) :: undef :: .slice none 0 0 :: .pointer (some ⟨w.heap.size + 1, 0, none⟩) :: .pointer (some ⟨w.heap.size + 1 + 1, 0, none⟩) :: .pointer (some ⟨gb, 0, none⟩) :: .pointer (some ⟨b6, 0, none⟩) :: undef :: undef :: undef :: .map (some w.heap.size) :: .slice A xs.length c :: .func (.func 87) #[] #[.pointer (some ⟨w.heap.size + 1 + 1 + 1, 0, none⟩)] :: .agg #[.string x.n, .int .u16 x.t, .int .u16 x.c, .int .u32 x.l, .string x.d] :: .pointer (some ⟨gb, 1, none⟩) :: .int .u16 x.t :: .bool false :: .pointer (some ⟨gb, 0, none⟩) :: .string x.n :: .string fn :: .pointer (some ⟨gb, 1, none⟩) :: .int .u16 x.t :: .agg #[.string fn, .int .u16 x.t] :: undef :: undef :: undef :: undef :: undef :: undef :: undef :: undef :: undef :: undef :: undef :: undef :: undef :: undef :: undef :: undef :: undef :: undef :: undef :: undef :: undef :: undef :: undef :: undef :: undef :: undef :: undef :: undef :: undef :: undef :: undef :: undef :: undef :: undef :: undef :: undef :: undef :: undef :: undef :: undef :: []) : List Value).toArray, defers := [] } W6 := by
        intro b6 W6 hB6 hb6 hle6
        have hb6' : gb < W6.heap.size := Nat.lt_of_lt_of_le hb0 hb6.size
        have s0 := hB6.cell 0
        have s1 := hB6.cell 1
        have y0 := (hb6.cell (p := ⟨gb, 0, none⟩) hb0).trans x0
        have y1 := (hb6.cell (p := ⟨gb, 1, none⟩) hb0).trans x1
        have y2 := (hb6.cell (p := ⟨gb, 2, none⟩) hb0).trans x2
        have y3 := (hb6.cell (p := ⟨gb, 3, none⟩) hb0).trans x3
        have y4 := (hb6.cell (p := ⟨gb, 4, none⟩) hb0).trans x4
        refine hK0 _ _ ?_
        clear hK0 x0 x1 x2 x3 x4 e41
        obtain ⟨h1, h2, h3, h4, h5, hxs, hlp, hG⟩ := HV.out
        have h16 := h1.low hb6
        have hbase : W0.heap.size + 2 ≤ V.heap.size := by have := HZ.out.2.1; omega
        have hbase6 : W0.heap.size + 2 ≤ W6.heap.size := Nat.le_trans hbase hb6.size
        have hB6' := h4.trans (hb6.mono h4.size)
        have t1 := h16.bm_.cell 0
        have hfs : fn.size ≤ maxLen := by rw [← HFN.out]; have := hxs.1.1; show (foldB x.n.data.toList).toArray.size ≤ _; rw [List.size_toArray, foldB_length]; show x.n.data.size ≤ _; unfold maxLen; have e : x.n.data.size = x.n.size := rfl; omega
        have hk : 0 ≤ x.t ∧ x.t ≤ 65535 := hxs.2.2.1
        have hlk := of_look h16 fn x.t hfs hk
        obtain ⟨Ag, cg, hov, _, _⟩ := old_shape h16 fn.data.toList x.t
        rw [hov] at hlk
        have HFS := Lib.hid (And.intro hfs hk)
        have HW := Lib.hid (And.intro h16 (And.intro hbase (And.intro hbase6 (And.intro hB6' hB6))))
        have HW2 := Lib.hid (And.intro hb6 (And.intro hle6 hb6'))
        clear h1 h2 h3 h4 h5 hxs hlp hG h16 hbase hbase6 hB6' hB6 hb6 hle6 hb6' hov hfs hk
        cases hno : G fn.data.toList x.t with
        | none =>
          rw [hno] at hlk
          have hlk' : (Instr.lookup 128 (.map (some w.heap.size)) (.agg #[.string fn, .int .u16 x.t]) false).run Try.prog W6 = .ok (.slice Ag 0 cg) W6 := hlk
          clear hlk
          have HNO := Lib.hid hno
          clear hno
          have HE8 := Lib.hid (of_eight HW.out.1 HW.out.2.2.1 (fn, x.t))
          have t2 := HW.out.1.bo_.cell 0
          have hPl : P.length < 100 := by have := HV.out.2.1.l; have := HV.out.2.2.2.2.2.2.1; omega
          have HP := Lib.hid hPl
          clear hPl
          gi_upto_region 9 with (gi_at_builtin; go_must (refine wpListIn_append_sl _ rfl (.tmp 28) (.tmp 30) 129 129 rfl 134 j0 (.agg #[.string ⟨#[]⟩, .int .u16 0]) 2 24 Try.underlying129 hj0 hy0 hy1 hy2 rfl (.slice Ao P.length co) P.length (flatV plVs P) rfl HE8.out.1 _ rfl 1 (plVs (fn, x.t)) HE8.out.2.1 (by have := HP.out; unfold maxLen; omega) (by have := HP.out; omega) ?_); intro v3 w3 hs3 hg3 hv3; obtain ⟨A3, c3, rfl, hc3, hm3⟩ := hs3.shape; have E9 := HE8.out.2.2 A3 c3 w3 hs3 hg3 hv3; have g0 := E9.1.cell 0; have f0 := E9.1.frozen 0; have HE9 := Lib.hid E9; clear hs3 hg3 hv3 E9 hc3 hm3)
          have HW8 : RowKit.Hid (GS (w3.setCell ⟨w.heap.size + 1 + 1, 0, none⟩ (.slice A3 (P.length + 1) c3)) w.heap.size (w.heap.size + 1) (w.heap.size + 1 + 1) (W0.heap.size + 2) m A3 c3 (P ++ [(fn, x.t)]) G ∧ W0.heap.size + 2 ≤ (w3.setCell ⟨w.heap.size + 1 + 1, 0, none⟩ (.slice A3 (P.length + 1) c3)).heap.size ∧ Below w.heap.size w (w3.setCell ⟨w.heap.size + 1 + 1, 0, none⟩ (.slice A3 (P.length + 1) c3)) ∧
              KeepS (fun i => (W0.heap.size ≤ i ∧ i < W0.heap.size + 2) ∨ (i = w.heap.size + 1 + 1 + 1 ∨ (0 < xs.length ∧ ∃ a, A = some a ∧ i = a.block))) V (w3.setCell ⟨w.heap.size + 1 + 1, 0, none⟩ (.slice A3 (P.length + 1) c3)) ∧
              Blk (w3.setCell ⟨w.heap.size + 1 + 1, 0, none⟩ (.slice A3 (P.length + 1) c3)) b6 134 #[.string fn, .int .u16 x.t] ∧ Blk (w3.setCell ⟨w.heap.size + 1 + 1, 0, none⟩ (.slice A3 (P.length + 1) c3)) gb 77 #[.string x.n, .int .u16 x.t, .int .u16 x.c, .int .u32 x.l, .string x.d] ∧
              ((∃ g, G fn.data.toList x.t = some g) ∧ P ++ [(fn, x.t)] = P ∨ G fn.data.toList x.t = none ∧ P ++ [(fn, x.t)] = P ++ [(fn, x.t)])) := Lib.hid (by
            obtain ⟨e1, e2, e3, e4, e5⟩ := HE9.out
            obtain ⟨hsz0, hgb, hgs, hlow, hog⟩ := HZ.out
            obtain ⟨k1, k2, k3, k4, k5⟩ := HW.out
            obtain ⟨u1, u2, u3⟩ := HW2.out
            have hgB : Blk V gb 77 #[.string x.n, .int .u16 x.t, .int .u16 x.c, .int .u32 x.l, .string x.d] := HV.out.2.2.2.2.2.2.2
            have hown : ∀ q, (Value.slice Ao P.length co).ownBlock = some q → W0.heap.size + 2 ≤ q ∧ q < gb := fun q hq => ⟨(k1.oo q hq).1, hog q hq⟩
            have hz6 := u1.size
            refine ⟨e2, by simp; omega, e5 _ _ k4 (by omega) (by omega), ⟨by simp; omega, fun i hi hSi => ?_⟩, ?_, ?_, .inr ⟨HNO.out, rfl⟩⟩
            · have hi2 : i < W0.heap.size + 2 ∧ i ≠ w.heap.size + 1 + 1 := by
                rcases hSi with ⟨a, b⟩ | rfl | ⟨hp, a, ha, rfl⟩
                · omega
                · omega
                · have := hlow hp a ha; omega
              exact (e3 i (by omega) (fun e => by have := hown i e.symm; omega) hi2.2).trans (u1.block i hi)
            · exact (e3 b6 k5.lt (fun e => by have := hown b6 e.symm; omega) (by omega)).trans k5
            · exact (e3 gb u3 (fun e => by have := hown gb e.symm; omega) (by omega)).trans ((u1.block gb (by omega)).trans hgB))
          obtain ⟨W8, hW8⟩ : ∃ W8, w3.setCell ⟨w.heap.size + 1 + 1, 0, none⟩ (.slice A3 (P.length + 1) c3) = W8 := ⟨_, rfl⟩
          rw [hW8] at HW8 ⊢
          clear hW8 HE9 HE8 g0 f0 t1 t2 s0 s1 y0 y1 y2 y3 y4 hlk' HNO
          have T1 := HW8.out.1.bm_.cell 0
          have S0 := HW8.out.2.2.2.2.1.cell 0
          have S1 := HW8.out.2.2.2.2.1.cell 1
          have Y0 := HW8.out.2.2.2.2.2.1.cell 0
          have Y1 := HW8.out.2.2.2.2.2.1.cell 1
          have Y2 := HW8.out.2.2.2.2.2.1.cell 2
          have Y3 := HW8.out.2.2.2.2.2.1.cell 3
          have Y4 := HW8.out.2.2.2.2.2.1.cell 4
          obtain ⟨w1, st, Ag', cg', r1, sl1, sr1, h9⟩ := of_nine HW8.out.1 HW8.out.2.1 (by have := HV.out.2.2.1; have := HV.out.2.2.2.2.2.2.1; unfold maxLen; omega) fn x HFS.out.1 HFS.out.2
          obtain ⟨kn, hkn⟩ : ∃ kn, (oldR (G fn.data.toList x.t)).length = kn := ⟨_, rfl⟩
          have hkb : kn < 100 := by have := oldR_len HV.out.2.1 fn.data.toList x.t; have := HV.out.2.2.2.2.2.2.1; omega
          rw [hkn] at r1 sl1 h9
          have H9 := Lib.hid (And.intro sl1 (And.intro sr1 (And.intro h9 hkb)))
          clear sl1 sr1 h9 hkb hkn
          gi_wp2_with (gi_at_builtin; go_must (refine wpListIn_append_sl _ rfl (.tmp 34) (.tmp 36) 41 41 rfl 77 i0 (.agg #[.string ⟨#[]⟩, .int .u16 0, .int .u16 0, .int .u32 0, .string ⟨#[]⟩]) 5 40 Try.underlying41 hi0 hz0 hz1 hz2 rfl (.slice Ag' kn cg') kn (flatV RRec.vs (oldR (G fn.data.toList x.t))) rfl H9.out.1 _ rfl 1 (flatV RRec.vs [x]) H9.out.2.1 (by have := H9.out.2.2.2; unfold maxLen; omega) (by have := H9.out.2.2.2; omega) ?_); intro v5 w5 hs5 hg5 hv5; obtain ⟨A5, c5, rfl, hc5, hm5⟩ := hs5.shape; obtain ⟨w9, q1, q2, q3, q4, q5⟩ := H9.out.2.2.1 A5 c5 w5 hs5 hg5 hv5; have HF := Lib.hid (And.intro q2 (And.intro q3 (And.intro q4 q5))); clear hs5 hg5 hv5 q2 q3 q4 q5 hc5 hm5)
          obtain ⟨q2, q3, q4, q5⟩ := HF.out
          obtain ⟨k1, k2, k3, k4, k5, k6, hst⟩ := HW8.out
          obtain ⟨hsz0, hgb, hgs, hlow, hog⟩ := HZ.out
          have hS : ∀ i, (W0.heap.size ≤ i ∧ i < W0.heap.size + 2) ∨ (i = w.heap.size + 1 + 1 + 1 ∨ (0 < xs.length ∧ ∃ a, A = some a ∧ i = a.block)) → i < W0.heap.size + 2 ∧ i ≠ w.heap.size := by
            rintro i (⟨a, b⟩ | rfl | ⟨hp, a, ha, rfl⟩)
            · omega
            · omega
            · have := hlow hp a ha; omega
          refine ⟨⟨Nat.le_trans k4.size q4, fun i hi hSi => (q3 i (hS i hSi).1 (hS i hSi).2).trans (k4.same i hi hSi)⟩, ⟨m + 1, _, _, _, _, q2, HV.out.2.1.step x H41.out fn (by rw [← HFN.out]) (by rcases hst with h | h <;> first | exact .inl h | exact .inl ⟨h.1, rfl⟩ | exact .inr h | exact .inr ⟨h.1, rfl⟩), by rw [List.length_append]; have := HV.out.2.2.1; simp; omega, q5 _ _ k3 (Nat.le_refl _) (by omega)⟩, ?_⟩
          have := HV.out.2.2.2.2.1
          have := k4.size
          omega
        | some g =>
          have hgl : g.rs.length ≠ 0 := by
            have := (HV.out.2.1.g _ _ g hno).1
            intro e
            exact this (List.length_eq_zero_iff.1 e)
          rw [hno] at hlk
          obtain ⟨gn, hgn⟩ : ∃ gn, g.rs.length = gn := ⟨_, rfl⟩
          have hlk' : (Instr.lookup 128 (.map (some w.heap.size)) (.agg #[.string fn, .int .u16 x.t]) false).run Try.prog W6 = .ok (.slice Ag gn cg) W6 := by rw [← hgn]; exact hlk
          rw [hgn] at hgl
          have egn : ((gn : Int) == 0) = false := by simp; omega
          have HNO := Lib.hid (And.intro hno hgn)
          clear hno hgn hlk hgl
          gi_upto_region 9 with (fail)
          have HW8 : RowKit.Hid (GS W6 w.heap.size (w.heap.size + 1) (w.heap.size + 1 + 1) (W0.heap.size + 2) m Ao co P G ∧ W0.heap.size + 2 ≤ W6.heap.size ∧ Below w.heap.size w W6 ∧
              KeepS (fun i => (W0.heap.size ≤ i ∧ i < W0.heap.size + 2) ∨ (i = w.heap.size + 1 + 1 + 1 ∨ (0 < xs.length ∧ ∃ a, A = some a ∧ i = a.block))) V W6 ∧
              Blk W6 b6 134 #[.string fn, .int .u16 x.t] ∧ Blk W6 gb 77 #[.string x.n, .int .u16 x.t, .int .u16 x.c, .int .u32 x.l, .string x.d] ∧
              ((∃ g, G fn.data.toList x.t = some g) ∧ P = P ∨ G fn.data.toList x.t = none ∧ P = P ++ [(fn, x.t)])) := Lib.hid (by
            obtain ⟨k1, k2, k3, k4, k5⟩ := HW.out
            obtain ⟨u1, u2, u3⟩ := HW2.out
            have hgB : Blk V gb 77 #[.string x.n, .int .u16 x.t, .int .u16 x.c, .int .u32 x.l, .string x.d] := HV.out.2.2.2.2.2.2.2
            exact ⟨k1, k3, k4, KeepS.of_below u1, k5, hgB.below u1 hgB.lt, .inl ⟨⟨_, HNO.out.1⟩, rfl⟩⟩)
          clear t1 s0 s1 y0 y1 y2 y3 y4 hlk' HNO egn
          have T1 := HW8.out.1.bm_.cell 0
          have S0 := HW8.out.2.2.2.2.1.cell 0
          have S1 := HW8.out.2.2.2.2.1.cell 1
          have Y0 := HW8.out.2.2.2.2.2.1.cell 0
          have Y1 := HW8.out.2.2.2.2.2.1.cell 1
          have Y2 := HW8.out.2.2.2.2.2.1.cell 2
          have Y3 := HW8.out.2.2.2.2.2.1.cell 3
          have Y4 := HW8.out.2.2.2.2.2.1.cell 4
          obtain ⟨w1, st, Ag', cg', r1, sl1, sr1, h9⟩ := of_nine HW8.out.1 HW8.out.2.1 (by have := HV.out.2.2.1; have := HV.out.2.2.2.2.2.2.1; unfold maxLen; omega) fn x HFS.out.1 HFS.out.2
          obtain ⟨kn, hkn⟩ : ∃ kn, (oldR (G fn.data.toList x.t)).length = kn := ⟨_, rfl⟩
          have hkb : kn < 100 := by have := oldR_len HV.out.2.1 fn.data.toList x.t; have := HV.out.2.2.2.2.2.2.1; omega
          rw [hkn] at r1 sl1 h9
          have H9 := Lib.hid (And.intro sl1 (And.intro sr1 (And.intro h9 hkb)))
          clear sl1 sr1 h9 hkb hkn
          gi_wp2_with (gi_at_builtin; go_must (refine wpListIn_append_sl _ rfl (.tmp 34) (.tmp 36) 41 41 rfl 77 i0 (.agg #[.string ⟨#[]⟩, .int .u16 0, .int .u16 0, .int .u32 0, .string ⟨#[]⟩]) 5 40 Try.underlying41 hi0 hz0 hz1 hz2 rfl (.slice Ag' kn cg') kn (flatV RRec.vs (oldR (G fn.data.toList x.t))) rfl H9.out.1 _ rfl 1 (flatV RRec.vs [x]) H9.out.2.1 (by have := H9.out.2.2.2; unfold maxLen; omega) (by have := H9.out.2.2.2; omega) ?_); intro v5 w5 hs5 hg5 hv5; obtain ⟨A5, c5, rfl, hc5, hm5⟩ := hs5.shape; obtain ⟨w9, q1, q2, q3, q4, q5⟩ := H9.out.2.2.1 A5 c5 w5 hs5 hg5 hv5; have HF := Lib.hid (And.intro q2 (And.intro q3 (And.intro q4 q5))); clear hs5 hg5 hv5 q2 q3 q4 q5 hc5 hm5)
          obtain ⟨q2, q3, q4, q5⟩ := HF.out
          obtain ⟨k1, k2, k3, k4, k5, k6, hst⟩ := HW8.out
          obtain ⟨hsz0, hgb, hgs, hlow, hog⟩ := HZ.out
          have hS : ∀ i, (W0.heap.size ≤ i ∧ i < W0.heap.size + 2) ∨ (i = w.heap.size + 1 + 1 + 1 ∨ (0 < xs.length ∧ ∃ a, A = some a ∧ i = a.block)) → i < W0.heap.size + 2 ∧ i ≠ w.heap.size := by
            rintro i (⟨a, b⟩ | rfl | ⟨hp, a, ha, rfl⟩)
            · omega
            · omega
            · have := hlow hp a ha; omega
          refine ⟨⟨Nat.le_trans k4.size q4, fun i hi hSi => (q3 i (hS i hSi).1 (hS i hSi).2).trans (k4.same i hi hSi)⟩, ⟨m + 1, _, _, _, _, q2, HV.out.2.1.step x H41.out fn (by rw [← HFN.out]) (by rcases hst with h | h <;> first | exact .inl h | exact .inl ⟨h.1, rfl⟩ | exact .inr h | exact .inr ⟨h.1, rfl⟩), by rw [List.length_append]; have := HV.out.2.2.1; simp; omega, q5 _ _ k3 (Nat.le_refl _) (by omega)⟩, ?_⟩
          have := HV.out.2.2.2.2.1
          have := k4.size
          omega
      refine wpIn_region_class (fun W => Below V.heap.size V W) (by kernel_rfl) ?_
      refine wpAnyC_take (i := 0) (v := .pointer (some ⟨gb, 0, none⟩)) rfl (by kernel_rfl) (by kernel_rfl) (by kernel_rfl) (by kernel_rfl) (fun _ _ _ h => h) ?_ ⟨fun _ _ => rfl, Or.inl ⟨by rfl, ?_⟩⟩ ?_
      · exact (Below.refl _ _).drew
      · intro W hW
        go_simp
      refine wpAnyC_take (i := 1) (v := .string x.n) rfl (by kernel_rfl) (by kernel_rfl) (by kernel_rfl) (by kernel_rfl) (fun _ _ _ h => h) ?_ ⟨fun _ _ => rfl, Or.inl ⟨by rfl, ?_⟩⟩ ?_
      · exact (Below.refl _ _).drew
      · intro W hW
        have d0 := (hW.cell (p := ⟨gb, 0, none⟩) hb0).trans x0
        go_simp
      refine wpAnyC_take (i := 3) (v := .pointer (some ⟨gb, 1, none⟩)) rfl (by kernel_rfl) (by kernel_rfl) (by kernel_rfl) (by kernel_rfl) (fun _ _ _ h => h) ?_ ⟨fun _ _ => rfl, Or.inl ⟨by rfl, ?_⟩⟩ ?_
      · exact (Below.refl _ _).drew
      · intro W hW
        go_simp
      refine wpAnyC_take (i := 4) (v := .int .u16 x.t) rfl (by kernel_rfl) (by kernel_rfl) (by kernel_rfl) (by kernel_rfl) (fun _ _ _ h => h) ?_ ⟨fun _ _ => rfl, Or.inl ⟨by rfl, ?_⟩⟩ ?_
      · exact (Below.refl _ _).drew
      · intro W hW
        have d1 := (hW.cell (p := ⟨gb, 1, none⟩) hb0).trans x1
        go_simp
      refine wpAnyC_ready (rs := [2, 6]) (by kernel_rfl) (by simp) ?_
      refine AllReadyC.cons rfl (fun K hK => ?_) (AllReadyC.cons rfl (fun K hK => ?_) AllReadyC.nil)
      · go_simp
        refine ⟨trivial, fun h => by simp [Fence.wide] at h, ?_⟩
        refine (HFO.out _).mono ?_
        rintro e W1 ⟨rfl, hb1⟩
        have hb1' : Below V.heap.size V W1 := (Below.refl _ _).drew.trans hb1
        have hs1 := hb1'.size
        refine hK _ _ hb1' ?_
        clear hK K hb1
        refine wpAnyC_take (i := 5) (v := .agg #[.string fn, .int .u16 x.t]) rfl (by kernel_rfl) (by kernel_rfl) (by kernel_rfl) (by kernel_rfl) (fun _ _ _ h => h) ?_ ⟨fun _ _ => rfl, Or.inl ⟨by rfl, ?_⟩⟩ ?_
        · exact hb1'
        · intro W hW
          go_simp
        refine wpAnyC_ready (rs := [6]) (by kernel_rfl) (by simp) ?_
        refine AllReadyC.cons rfl (fun K hK => ?_) AllReadyC.nil
        go_simp
        refine hK _ _ (hb1'.alloc hs1 _) ?_
        clear hK K
        refine wpAnyC_ready (rs := [7]) (by kernel_rfl) (by simp) ?_
        refine AllReadyC.cons rfl (fun K hK => ?_) AllReadyC.nil
        go_simp
        refine hK _ _ (hb1'.alloc hs1 _) ?_
        clear hK K
        refine wpAnyC_done (by kernel_rfl) ?_ _
        exact REST _ _ (Blk.new _ _ _) (hb1'.alloc hs1 _) hs1
      · go_simp
        refine hK _ _ (((Below.refl _ _).alloc (Nat.le_refl _) _).drew) ?_
        clear hK K
        refine wpAnyC_ready (rs := [2]) (by kernel_rfl) (by simp) ?_
        refine AllReadyC.cons rfl (fun K hK => ?_) AllReadyC.nil
        go_simp
        refine ⟨trivial, fun h => by simp [Fence.wide] at h, ?_⟩
        refine (HFO.out _).mono ?_
        rintro e W1 ⟨rfl, hb1⟩
        have hb1' : Below V.heap.size V W1 := (((Below.refl _ _).alloc (Nat.le_refl _) _).drew).trans (hb1.mono (by simp))
        have z1 : Blk W1 V.heap.size 134 #[.string ⟨#[]⟩, .int .u16 0] := by
          have h2 : Blk (V.alloc (.cells #[.string ⟨#[]⟩, .int .u16 0] 134)).drew V.heap.size 134 #[.string ⟨#[]⟩, .int .u16 0] := Blk.new _ _ _
          exact h2.below hb1 (by simp)
        refine hK _ _ hb1' ?_
        clear hK K hb1
        refine wpAnyC_take (i := 5) (v := .agg #[.string fn, .int .u16 x.t]) rfl (by kernel_rfl) (by kernel_rfl) (by kernel_rfl) (by kernel_rfl) (fun _ _ _ h => h) ?_ ⟨fun _ _ => rfl, Or.inl ⟨by rfl, ?_⟩⟩ ?_
        · exact hb1'
        · intro W hW
          go_simp
        have c1 := z1.cell 0
        have f1 := z1.frozen 0
        have c2 := z1.cell 1
        have f2 := z1.frozen 1
        refine wpAnyC_ready (rs := [7]) (by kernel_rfl) (by simp) ?_
        refine AllReadyC.cons rfl (fun K hK => ?_) AllReadyC.nil
        go_simp
        have hb2 : Below V.heap.size V ((W1.setCell ⟨V.heap.size, 0, none⟩ (.string fn)).setCell ⟨V.heap.size, 1, none⟩ (.int .u16 x.t)) := (hb1'.setCell (Nat.le_refl _) _).setCell (Nat.le_refl _) _
        refine hK _ _ hb2 ?_
        clear hK K
        refine wpAnyC_done (by kernel_rfl) ?_ _
        exact REST _ _ ((z1.set_ 0 _).set_ 1 _) hb2 (Nat.le_refl _)
  case hdone =>
    rintro D V hD ⟨⟨m, Ao, co, P, G, h1, h2, h3, h4⟩, h5⟩ hK0
    have t1 := h1.bm_.cell 0
    have t2 := h1.bo_.cell 0
    have hPl : P.length ≤ 100 := by
      have := h2.l
      have h8 : (rightL xs).length ≤ xs.length := List.length_filter_le _ _
      omega
    have HV := Lib.hid (And.intro h1 (And.intro h2 (And.intro h4 (And.intro h5 (And.intro hPl (And.intro hD hK0))))))
    have HS := Lib.hid (And.intro hs (And.intro hl hsz0))
    have hPI : (P.length : Int) ≤ 100 := by omega
    clear h1 h2 h3 h4 h5 hPl hD hK0 hseq hs hl hgs0 hbW hlow hT hsz0
    gi_wp2_with (fail)
    gi_loopg [7, 42] P.length (fun g v7 v42 wr => ∃ (k : Nat) (A7 : Option Addr) (c7 : Nat) (S : List SRec), v42 = .int .i64 (k : Int) ∧ v7 = .slice A7 S.length c7 ∧ Aside (g + k = P.length) ∧ Aside (SI V wr A7 c7 S (P.take k)))
    case atStart => exact ⟨0, none, 0, [], rfl, rfl, rfl, SI.nil_ V⟩
    case round =>
      obtain ⟨k, A7, c7, S, rfl, rfl, hg, hI⟩ := hrel
      clear t1 t2
      by_cases hlt : k < P.length
      · have hltI : (k : Int) < (P.length : Int) := by omega
        obtain ⟨p, hp⟩ : ∃ p, P[k]? = some p := ⟨_, List.getElem?_eq_getElem hlt⟩
        obtain ⟨gv, hgv⟩ := HV.out.2.1.p p (List.mem_of_getElem? hp)
        have hw := HV.out.1.low hI.out.bl
        obtain ⟨ob, off, rfl, hob, hcl⟩ := GTab.of_sl plVs_two hw.os (by omega)
        have c0 : wr.cell? ⟨ob, off + k * 2, none⟩ = some (.string p.1) := hcl k p hp 0 _ rfl
        have c1 : wr.cell? ⟨ob, off + k * 2 + 1, none⟩ = some (.int .u16 p.2) := hcl k p hp 1 _ rfl
        have HP := Lib.hid (And.intro hp (And.intro hgv (And.intro hlt hI.out)))
        clear hp hgv hlt hw hcl hI
        gi_wp2_with (fail)
        rename_i K0 hK0
        obtain ⟨wb, hwb⟩ : ∃ wb, wr.alloc (.cells #[.string p.1, .int .u16 p.2] 134) = wb := ⟨_, rfl⟩
        have hbx : Blk wb wr.heap.size 134 #[.string p.1, .int .u16 p.2] := by rw [← hwb]; exact Blk.new _ _ _
        have hbb : Below wr.heap.size wr wb := by rw [← hwb]; exact (Below.refl _ _).alloc (Nat.le_refl _) _
        have hzb : wb.heap.size = wr.heap.size + 1 := by rw [← hwb]; simp
        rw [hwb]
        have HB := Lib.hid (And.intro hbx (And.intro hbb hzb))
        clear hwb hbx hbb hzb c0 c1
        have hI := HP.out.2.2.2
        have hg2 := HV.out.1
        have hgv := HP.out.2.1
        obtain ⟨grs, gA, gc⟩ := gv
        have hrs : grs ≠ [] ∧ (∀ r ∈ grs, r ∈ rightL xs ∧ foldB r.nb = p.1.data.toList ∧ r.t = p.2) ∧ grs.length ≤ (rightL xs).length := HV.out.2.1.g _ _ _ hgv
        have hk41 := HV.out.2.1.q _ _ _ hgv
        have hgl : 0 < grs.length := List.length_pos_iff.2 hrs.1
        have hgl2 : grs.length ≤ 100 := by have h8 : (rightL xs).length ≤ xs.length := List.length_filter_le _ _; have := hrs.2.2; have := HS.out.2.1; omega
        have hall : ∀ r ∈ grs, rightB r = true ∧ r.t = p.2 ∧ r.small ∧ r.ok := fun r hr => by
          have h9 := List.mem_filter.1 (hrs.2.1 r hr).1
          exact ⟨h9.2, (hrs.2.1 r hr).2.2, HS.out.1 r h9.1⟩
        obtain ⟨r0, hr0⟩ : ∃ r0, grs[0]? = some r0 := ⟨_, List.getElem?_eq_getElem hgl⟩
        have hgsl : Sl V 5 (.slice gA grs.length gc) grs.length (flatV RRec.vs grs) := (hg2.gs _ _ _ hgv).1
        obtain ⟨gb, goff, rfl, hgb, d0, d1, d2, d3, d4⟩ := (rtab_of_sl hgsl).cells hr0
        rw [Nat.zero_mul, Nat.add_zero] at d0
        have hglI : (0 : Int) < (grs.length : Int) := by omega
        have hpb : p.1.size ≤ maxLen ∧ (0 ≤ p.2 ∧ p.2 ≤ 65535) := by
          have h9 := hall r0 (List.mem_of_getElem? hr0)
          have h8 := (hrs.2.1 r0 (List.mem_of_getElem? hr0)).2.1
          refine ⟨?_, by rw [← h9.2.1]; exact h9.2.2.2.2.1⟩
          have e1 : p.1.data.toList.length = r0.nb.length := by rw [← h8, foldB_length]
          have e2 : p.1.data.toList.length = p.1.size := by rw [Array.length_toList]; rfl
          have e3 : r0.nb.length = r0.n.size := by show r0.n.data.toList.length = _; rw [Array.length_toList]; rfl
          have := h9.2.2.1.1
          unfold maxLen; omega
        have HC : RowKit.Hid (∀ W, (Below V.heap.size V W ∧ Blk W wr.heap.size 134 #[.string p.1, .int .u16 p.2]) →
            W.cell? ⟨w.heap.size + 1, 0, none⟩ = some (.map (some w.heap.size)) ∧ W.cell? ⟨wr.heap.size, 0, none⟩ = some (.string p.1) ∧ W.cell? ⟨wr.heap.size, 1, none⟩ = some (.int .u16 p.2) ∧ W.cell? ⟨gb, goff, none⟩ = some (.string r0.n) ∧
            (Instr.lookup 128 (.map (some w.heap.size)) (.agg #[.string p.1, .int .u16 p.2]) false).run Try.prog W = .ok (.slice (some ⟨gb, goff, none⟩) grs.length gc) W) := Lib.hid (fun W hW => by
          have h9 := hg2.low hW.1
          have hl := of_look h9 p.1 p.2 hpb.1 hpb.2
          rw [hgv] at hl
          exact ⟨h9.bm_.cell 0, hW.2.cell 0, hW.2.cell 1, (hW.1.cell (p := ⟨gb, goff, none⟩) hgb).trans d0, hl⟩)
        have HG := Lib.hid (And.intro hall (And.intro hk41 (And.intro hr0 (And.intro hgl (And.intro hgl2 (And.intro hgsl (hrs.2.1 r0 (List.mem_of_getElem? hr0)).2.1))))))
        have hC0 : Below V.heap.size V wb.drew ∧ Blk wb.drew wr.heap.size 134 #[.string p.1, .int .u16 p.2] := ⟨(hI.bl.trans (HB.out.2.1.mono hI.bl.size)).drew, HB.out.1⟩
        clear hI hg2 hgv hrs hk41 hgl hgl2 hall hr0 hgsl d0 d1 d2 d3 d4 hpb
        refine wpIn_region_class (fun W => Below V.heap.size V W ∧ Blk W wr.heap.size 134 #[.string p.1, .int .u16 p.2]) (by kernel_rfl) ?_
        refine wpAnyC_take (i := 0) (v := .slice A7 S.length c7) rfl (by kernel_rfl) (by kernel_rfl) (by kernel_rfl) (by kernel_rfl) (fun _ _ _ h => h) ?_ ⟨fun _ _ => rfl, Or.inl ⟨by rfl, ?_⟩⟩ ?_
        · exact hC0
        · intro W hW; go_simp
        refine wpAnyC_take (i := 1) (v := .map (some w.heap.size)) rfl (by kernel_rfl) (by kernel_rfl) (by kernel_rfl) (by kernel_rfl) (fun _ _ _ h => h) ?_ ⟨fun _ _ => rfl, Or.inl ⟨by rfl, ?_⟩⟩ ?_
        · exact hC0
        · intro W hW; obtain ⟨c0, c1, c2, c3, c4⟩ := HC.out W hW; go_simp
        refine wpAnyC_take (i := 2) (v := .agg #[.string p.1, .int .u16 p.2]) rfl (by kernel_rfl) (by kernel_rfl) (by kernel_rfl) (by kernel_rfl) (fun _ _ _ h => h) ?_ ⟨fun _ _ => rfl, Or.inl ⟨by rfl, ?_⟩⟩ ?_
        · exact hC0
        · intro W hW; obtain ⟨c0, c1, c2, c3, c4⟩ := HC.out W hW; go_simp
        refine wpAnyC_take (i := 3) (v := .slice (some ⟨gb, goff, none⟩) grs.length gc) rfl (by kernel_rfl) (by kernel_rfl) (by kernel_rfl) (by kernel_rfl) (fun _ _ _ h => h) ?_ ⟨fun _ _ => rfl, Or.inl ⟨by rfl, ?_⟩⟩ ?_
        · exact hC0
        · intro W hW; obtain ⟨c0, c1, c2, c3, c4⟩ := HC.out W hW; go_simp
        refine wpAnyC_take (i := 4) (v := .pointer (some ⟨gb, goff, none⟩)) rfl (by kernel_rfl) (by kernel_rfl) (by kernel_rfl) (by kernel_rfl) (fun _ _ _ h => h) ?_ ⟨fun _ _ => rfl, Or.inl ⟨by rfl, ?_⟩⟩ ?_
        · exact hC0
        · intro W hW; obtain ⟨c0, c1, c2, c3, c4⟩ := HC.out W hW; go_simp; (intro e; have h9 := HG.out.2.2.2.1; rw [e] at h9; cases h9)
        refine wpAnyC_take (i := 5) (v := .pointer (some ⟨gb, goff, none⟩)) rfl (by kernel_rfl) (by kernel_rfl) (by kernel_rfl) (by kernel_rfl) (fun _ _ _ h => h) ?_ ⟨fun _ _ => rfl, Or.inl ⟨by rfl, ?_⟩⟩ ?_
        · exact hC0
        · intro W hW; obtain ⟨c0, c1, c2, c3, c4⟩ := HC.out W hW; go_simp
        refine wpAnyC_take (i := 6) (v := .string r0.n) rfl (by kernel_rfl) (by kernel_rfl) (by kernel_rfl) (by kernel_rfl) (fun _ _ _ h => h) ?_ ⟨fun _ _ => rfl, Or.inl ⟨by rfl, ?_⟩⟩ ?_
        · exact hC0
        · intro W hW; obtain ⟨c0, c1, c2, c3, c4⟩ := HC.out W hW; go_simp
        refine wpAnyC_take (i := 7) (v := .pointer (some ⟨wr.heap.size, 1, none⟩)) rfl (by kernel_rfl) (by kernel_rfl) (by kernel_rfl) (by kernel_rfl) (fun _ _ _ h => h) ?_ ⟨fun _ _ => rfl, Or.inl ⟨by rfl, ?_⟩⟩ ?_
        · exact hC0
        · intro W hW; obtain ⟨c0, c1, c2, c3, c4⟩ := HC.out W hW; go_simp
        refine wpAnyC_take (i := 8) (v := .int .u16 p.2) rfl (by kernel_rfl) (by kernel_rfl) (by kernel_rfl) (by kernel_rfl) (fun _ _ _ h => h) ?_ ⟨fun _ _ => rfl, Or.inl ⟨by rfl, ?_⟩⟩ ?_
        · exact hC0
        · intro W hW; obtain ⟨c0, c1, c2, c3, c4⟩ := HC.out W hW; go_simp
        refine wpAnyC_take (i := 9) (v := .map (some w.heap.size)) rfl (by kernel_rfl) (by kernel_rfl) (by kernel_rfl) (by kernel_rfl) (fun _ _ _ h => h) ?_ ⟨fun _ _ => rfl, Or.inl ⟨by rfl, ?_⟩⟩ ?_
        · exact hC0
        · intro W hW; obtain ⟨c0, c1, c2, c3, c4⟩ := HC.out W hW; go_simp
        refine wpAnyC_take (i := 10) (v := .agg #[.string p.1, .int .u16 p.2]) rfl (by kernel_rfl) (by kernel_rfl) (by kernel_rfl) (by kernel_rfl) (fun _ _ _ h => h) ?_ ⟨fun _ _ => rfl, Or.inl ⟨by rfl, ?_⟩⟩ ?_
        · exact hC0
        · intro W hW; obtain ⟨c0, c1, c2, c3, c4⟩ := HC.out W hW; go_simp
        refine wpAnyC_take (i := 11) (v := .slice (some ⟨gb, goff, none⟩) grs.length gc) rfl (by kernel_rfl) (by kernel_rfl) (by kernel_rfl) (by kernel_rfl) (fun _ _ _ h => h) ?_ ⟨fun _ _ => rfl, Or.inl ⟨by rfl, ?_⟩⟩ ?_
        · exact hC0
        · intro W hW; obtain ⟨c0, c1, c2, c3, c4⟩ := HC.out W hW; go_simp
        refine wpAnyC_ready (rs := [12]) (by kernel_rfl) (by simp) ?_
        refine AllReadyC.cons rfl (fun K hK => ?_) AllReadyC.nil
        go_simp
        refine ⟨trivial, ?_⟩
        have hbd : Below wr.heap.size wr wb.drew := HB.out.2.1.drew
        have hTW : RTab wb.drew (some ⟨gb, goff, none⟩) grs := (rtab_of_sl HG.out.2.2.2.2.2.1).below (HP.out.2.2.2.bl.trans (hbd.mono HP.out.2.2.2.bl.size))
        refine (callsIn_wide.2 (build_any stable_all r0.n p.2 (some ⟨gb, goff, none⟩) gc grs _ hTW HG.out.2.2.2.1 (by have := HG.out.2.2.2.2.1; omega) (by have := HG.out.2.2.2.2.1; omega) (fun r hr => ⟨by have := (HG.out.1 r hr).2.2.1.2; omega, (HG.out.1 r hr).2.2.2.2.2.2.1, (HG.out.1 r hr).2.2.2.2.2.2.2⟩))).mono ?_
        rintro e W1 ⟨Pm, ds, Ad, cd, q1, q2, q3, rfl, hsl, hown, hb1⟩
        have hgd := sgood (A := Ad) (c := cd) HG.out.2.2.1 HG.out.2.1 HG.out.1 q1 q2 q3
        have hb1' : Below wr.heap.size wr W1 := hbd.trans (hb1.mono hbd.size)
        have hbx1 : Blk W1 wr.heap.size 134 #[.string p.1, .int .u16 p.2] := hC0.2.below hb1 hC0.2.lt
        have hz1' := hb1'.size
        have hz9 := HP.out.2.2.2.bl.size
        obtain ⟨ml, hml⟩ : ∃ ml, minL grs = ml := ⟨_, rfl⟩
        unfold setV
        rw [hml] at hgd ⊢
        have hC1 : Below V.heap.size V W1 ∧ Blk W1 wr.heap.size 134 #[.string p.1, .int .u16 p.2] := ⟨HP.out.2.2.2.bl.trans (hb1'.mono hz9), hbx1⟩
        have HN := Lib.hid (And.intro hgd (And.intro hsl (And.intro hown (And.intro hb1' (And.intro hb1 hbx1)))))
        refine hK _ _ hC1 ?_
        clear hK K hgd hsl hown hb1 hbx1 q1 q2 q3 hTW hbd
        refine wpAnyC_ready (rs := [13]) (by kernel_rfl) (by simp) ?_
        refine AllReadyC.cons rfl (fun K hK => ?_) AllReadyC.nil
        go_simp
        have hC2 : Below V.heap.size V (W1.alloc (.cells #[.string r0.n, .int .u16 p.2, .int .u32 ml, .slice Ad ds.length cd] 49)) ∧ Blk (W1.alloc (.cells #[.string r0.n, .int .u16 p.2, .int .u32 ml, .slice Ad ds.length cd] 49)) wr.heap.size 134 #[.string p.1, .int .u16 p.2] := ⟨hC1.1.alloc (by omega) _, hC1.2.alloc _⟩
        refine hK _ _ hC2 ?_
        clear hK K
        have hIW : SI V W1 A7 c7 S (P.take k) := HP.out.2.2.2.low hb1'
        have hSl : S.length ≤ 100 := by have h9 := congrArg List.length hIW.key; simp at h9; have := HV.out.2.2.2.2.1; omega
        refine wpAnyC_ready (rs := [14]) (by kernel_rfl) (by simp) ?_
        refine AllReadyC.cons rfl (fun K hK => ?_) AllReadyC.nil
        refine stepIn_append_sl rfl (.tmp 46) (.tmp 59) 69 69 rfl 49 s0 (.agg #[.string ⟨#[]⟩, .int .u16 0, .int .u32 0, .slice none 0 0]) 4 48 Try.underlying69 hs0 hv0 hv1 hv2 rfl (.slice A7 S.length c7) S.length (flatV SRec.vs S) rfl (hIW.sl.alloc _) (.slice (some ⟨W1.heap.size, 0, none⟩) 1 1) rfl 1 (SRec.vs ⟨r0.n, p.2, ml, Ad, ds, cd⟩) (src_set W1 ⟨r0.n, p.2, ml, Ad, ds, cd⟩) (by unfold maxLen; omega) (by omega) ?_
        intro v3 w3 hs3 hg3 hv3
        obtain ⟨A3, c3, rfl, hc3, hm3⟩ := hs3.shape
        have hpush := HP.out.2.2.2.push HN.out.2.2.2.1 ⟨r0.n, p.2, ml, Ad, ds, cd⟩ p ⟨HG.out.2.2.2.2.2.2, rfl⟩ HN.out.1 HN.out.2.1 (fun g hg => by have h9 := HN.out.2.2.1 g hg; have h8 := HB.out.2.2; have h7 : wb.drew.heap.size = wb.heap.size := rfl; omega) _ hs3 hg3 hv3
        have hC3 : Below V.heap.size V w3 ∧ Blk w3 wr.heap.size 134 #[.string p.1, .int .u16 p.2] := ⟨hpush.bl, hC2.2.grown hg3 (fun e => by have h9 := HP.out.2.2.2.sl.lt _ e.symm; omega)⟩
        refine hK _ _ hC3 ?_
        clear hK K
        refine wpAnyC_ready (rs := [15]) (by kernel_rfl) (by simp) ?_
        refine AllReadyC.cons rfl (fun K hK => ?_) AllReadyC.nil
        go_simp
        refine hK _ _ hC3 ?_
        clear hK K
        refine wpAnyC_done (by kernel_rfl) ?_ _
        have HPU := Lib.hid (And.intro hpush (And.intro hSl (And.intro hc3 hm3)))
        clear hpush hC3 hg3 hv3 hs3 hC2 hC1 hC0 hIW hSl hc3 hm3 hz1' hz9 hml hb1'
        refine hK0 _ _ ?_
        gi_wp2_with (fail)
        gi_roundg (P.length - (k + 1))
        case measure => have := hg.out; have := hltI; omega
        case rel =>
          refine ⟨k + 1, A3, c3, S ++ [⟨r0.n, p.2, ml, Ad, ds, cd⟩], by go_num, by simp, (show P.length - (k + 1) + (k + 1) = P.length by have := hltI; omega), ?_⟩
          have h9 := HPU.out.1
          have h8 : P.take (k + 1) = P.take k ++ [p] := by rw [List.take_add_one, HP.out.1]; rfl
          rw [h8]
          exact h9
      · have hltI : ¬ (k : Int) < (P.length : Int) := by omega
        have hke : k = P.length := by have := hg.out; omega
        have HI := Lib.hid hI.out
        clear hI
        gi_wp2_with (fail)
        obtain ⟨h1, h2, h4, h5, hPl, hD, hK0⟩ := HV.out
        have hI := HI.out
        have hz := hI.bl.size
        have hszW := HS.out.2.2
        have hDv := (Array.getElem?_eq_some_iff.1 hK0).1
        have hKr : wr.heap[D]? = some (.deferred (some [])) := (hI.bl.block D hDv).trans hK0
        have hdone : OfP w (.returned (.slice A7 S.length c7)) (wr.putObj D (.deferred none)) := by
          refine hI.done (by rw [hke, List.take_length]; exact h2.d) (by rw [hke, List.take_length]; exact hPl) h4.size (by simp) (fun q hq _ => World.putObj_heap_other (by omega)) ?_
          have hbw : Below w.heap.size w wr := h4.trans (hI.bl.mono h4.size)
          exact hbw.trans (belowK_b (w := w) (Nat.le_refl _) wr D _ _ (by omega) hKr rfl rfl)
        exact ⟨by simp, .inl ⟨_, _, rfl, run_takeDeferred hKr, _, results_tmp (t := 2) rfl _ _ _, hdone⟩⟩
  case hstop =>
    rintro D c pre V hD _ h _
    exact h.elim
end Go.Proofs.Ytfipacfompihkaa
