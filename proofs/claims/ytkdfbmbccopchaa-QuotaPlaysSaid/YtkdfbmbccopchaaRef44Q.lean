/- The reference's queue: Put, walked. Conditions: none. -/
import Derived.Test.YtkdfbmbccopchaaRef44P
namespace Go.Proofs.Ytkdfbmbccopchaa
open Go.RowKit Go.Lib

/-- What of finds, in one form. -/
theorem of_one {rs : Rw} {a : Int} {w w' : World} {e : Ending} (h : OfPost rs a w e w') :
    ∃ (z : Int) (v : Value), e = .returned (.tuple #[.int .i64 z, v]) ∧ Below w.heap.size w w' ∧
      ((z = -1 ∧ v = .slice none 0 0 ∧ (∀ q ∈ rs, q.1.1 ≠ a)) ∨ ∃ s l r, rs = s ++ ((a, l), v) :: r ∧ (∀ q ∈ s, q.1.1 ≠ a) ∧ z = (s.length : Int)) := by
  obtain ⟨h, hb⟩ := h
  rcases h with ⟨s, l, v, r, h1, h2, h3⟩ | ⟨h1, h2⟩
  · exact ⟨_, v, h3, hb, .inr ⟨s, l, r, h1, h2, rfl⟩⟩
  · exact ⟨-1, _, h2, hb, .inl ⟨rfl, rfl, h1⟩⟩
/-- The numbers that stand there, as a slice. -/
theorem of_sl {rs : Rw} {a z : Int} {v : Value} {V : World} {K : Nat → Prop} (hR : ∀ q ∈ rs, RC V K q.2 q.1.2) (h : (z = -1 ∧ v = .slice none 0 0 ∧ (∀ q ∈ rs, q.1.1 ≠ a)) ∨ ∃ s l r, rs = s ++ ((a, l), v) :: r ∧ (∀ q ∈ s, q.1.1 ≠ a) ∧ z = (s.length : Int)) :
    Sl V 1 v (getC (clOf rs) a).length ((getC (clOf rs) a).map i64V) ∧ ∀ i, v.ownBlock = some i → K i := by
  rcases h with ⟨_, rfl, h⟩ | ⟨s, l, r, rfl, hs, _⟩
  · rw [getC_noR h]
    exact ⟨Sl.nil _ _, fun i hi => by cases hi⟩
  · rw [getC_split hs]
    exact hR ((a, l), v) (by simp)

/-- The rows are copied. -/
theorem put_copy {w W w3 : World} {room each : Int} {K : Nat → Prop} {lv : Value} {n : Nat} {rs : Rw} {A3 : Option Addr} {c3 : Nat} {T : TypeId} (h : PW w W room each K lv n rs)
    (hs3 : Sl w3 2 (.slice A3 n c3) n (flatR rs)) (hg3 : (W.alloc (.cells #[] T)).grownBy w3 (Value.slice (some ⟨W.heap.size, 0, none⟩) 0 0).ownBlock)
    (hv3 : (Value.slice A3 n c3).ownBlock = (Value.slice (some ⟨W.heap.size, 0, none⟩) 0 0).ownBlock ∨ (Value.slice A3 n c3).ownBlock = some (W.alloc (.cells #[] T)).heap.size) :
    PW w w3 room each K lv n rs ∧ (KeepK (fun i => i < W.heap.size) W w3 ∧ ∀ i, (Value.slice A3 n c3).ownBlock = some i → W.heap.size ≤ i) ∧ PW w (w3.setCell ⟨w.heap.size, 2, none⟩ (.slice A3 n c3)) room each K (.slice A3 n c3) n rs := by
  have hk : KeepK (fun i => i < W.heap.size) W w3 := ((KeepK.refl (fun i => i < W.heap.size) W).alloc (fun i hi => hi) _).grown hg3 (fun i hi => by have : i < W.heap.size := hi; simp; omega) (fun i hi e => by
    have : i = W.heap.size := by simpa [Value.ownBlock] using e
    have : i < W.heap.size := hi
    omega)
  have ho : ∀ i, (Value.slice A3 n c3).ownBlock = some i → W.heap.size ≤ i := own_from (v := .slice (some ⟨W.heap.size, 0, none⟩) 0 0) (fun i hi => by
    have : W.heap.size = i := by simpa [Value.ownBlock] using hi
    omega) (by simp) hv3
  have hs := h.s
  refine ⟨h.keep hk, ⟨hk, ho⟩, h.lay (hk.mono fun i hi => by have : i < w.heap.size + 2 := hi; show i < _; omega) ⟨h.r.len, hs3, fun i hi => .inr (by have := ho i hi; omega), fun q hq => ⟨(h.r.each q hq).1.keepK hk fun i hi => (h.r.each q hq).1.lt i hi, (h.r.each q hq).2⟩⟩⟩

/-- A new row is put behind. -/
theorem put_new {w W V w5 : World} {room each : Int} {K : Nat → Prop} {lv : Value} {n : Nat} {rs : Rw} {A3 A5 : Option Addr} {c3 c5 : Nat} {a id : Int} {T1 T2 : TypeId} (hW : RQ W (fun i => (K i ∧ i < w.heap.size) ∨ w.heap.size + 2 ≤ i) lv n rs) (h : PW w V room each K (.slice A3 n c3) n rs)
    (ho : (∀ i, (Value.slice A3 n c3).ownBlock = some i → W.heap.size ≤ i) ∧ KeepK (fun i => i < W.heap.size ∧ i ≠ w.heap.size) W V)
    (hs5 : Sl w5 2 (.slice A5 (n + 1) c5) (n + 1) (flatR rs ++ [.int .u32 a, .slice (some ⟨V.heap.size, 0, none⟩) 1 1])) (hg5 : ((V.alloc (.cells #[.int .i64 id] T1)).alloc (.cells #[.int .u32 a, .slice (some ⟨V.heap.size, 0, none⟩) 1 1] T2)).grownBy w5 (Value.slice A3 n c3).ownBlock)
    (hv5 : (Value.slice A5 (n + 1) c5).ownBlock = (Value.slice A3 n c3).ownBlock ∨ (Value.slice A5 (n + 1) c5).ownBlock = some ((V.alloc (.cells #[.int .i64 id] T1)).alloc (.cells #[.int .u32 a, .slice (some ⟨V.heap.size, 0, none⟩) 1 1] T2)).heap.size) (hWw : w.heap.size + 2 ≤ W.heap.size) :
    Blk w5 w.heap.size 40 #[.int .i64 room, .int .i64 each, .slice A3 n c3] ∧ PW w (w5.setCell ⟨w.heap.size, 2, none⟩ (.slice A5 (n + 1) c5)) room each K (.slice A5 (n + 1) c5) (n + 1) (rs ++ [((a, [id]), .slice (some ⟨V.heap.size, 0, none⟩) 1 1)]) := by
  have hVs := h.s
  have hWV := ho.2.size
  have hne : ∀ i, i < W.heap.size → some i ≠ (Value.slice A3 n c3).ownBlock := fun i hi e => by have := ho.1 i e.symm; omega
  have hk : KeepK (fun i => i < V.heap.size ∧ (Value.slice A3 n c3).ownBlock ≠ some i) V w5 :=
    ((((KeepK.refl (fun i => i < V.heap.size ∧ (Value.slice A3 n c3).ownBlock ≠ some i) V).alloc (fun i hi => hi.1) (.cells #[.int .i64 id] T1)).alloc (fun i hi => by have := hi.1; simp; omega) (.cells #[.int .u32 a, .slice (some ⟨V.heap.size, 0, none⟩) 1 1] T2))).grown hg5 (fun i hi => by have := hi.1; simp; omega) (fun i hi e => hi.2 e.symm)
  have hkw : KeepK (fun i => i < w.heap.size + 2) V w5 := hk.mono fun i hi => by
    have hi' : i < w.heap.size + 2 := hi
    exact ⟨by omega, fun e => hne i (by omega) e.symm⟩
  have hkW : KeepK (fun i => i < W.heap.size ∧ i ≠ w.heap.size) W w5 := ho.2.trans (hk.mono fun i hi => ⟨by have := hi.1; omega, fun e => hne i hi.1 e.symm⟩)
  have hb1 : Blk w5 V.heap.size T1 #[.int .i64 id] := ((Blk.new V T1 #[.int .i64 id]).alloc _).grown hg5 (fun e => by have := h.r.s.lt _ e.symm; omega)
  refine ⟨h.b.keepK hkw (by show w.heap.size < _; omega), h.lay hkw ⟨by rw [List.length_append, h.r.len]; rfl, by rw [flatR_app]; exact hs5, fun i hi => .inr ?_, fun q hq => ?_⟩⟩
  · rcases hv5 with e | e
    · have := ho.1 i (e.symm.trans hi); omega
    · rw [hi] at e
      have : i = V.heap.size + 2 := by simpa using e
      omega
  · rcases List.mem_append.1 hq with hq | hq
    · have h1 := hW.each q hq
      exact ⟨h1.1.keepK hkW fun i hi => ⟨h1.1.lt i hi, by rcases h1.2 i hi with h | h <;> omega⟩, h1.2⟩
    · rw [List.mem_singleton.1 hq]
      exact ⟨sl_one hb1, fun i hi => .inr (by
        have : V.heap.size = i := by simpa [Value.ownBlock] using hi
        omega)⟩

set_option maxRecDepth 100000 in
set_option maxHeartbeats 8000000 in
theorem rPut44 (rm ea : Nat) (A : Option Addr) (n c : Nat) (K : Nat → Prop) (rs : Rw) (a id : Int) (w : World) (hR : RQ w K (.slice A n c) n rs) (hn : n ≤ 1000000) (hm : manyC (clOf rs) ≤ 1000000) (hgl : (getC (clOf rs) a).length ≤ 1000000) (hrm : rm ≤ 1024) (hea : ea ≤ 1024) :
    Calls Try.prog 17 #[.agg #[.int .i64 (rm : Int), .int .i64 (ea : Int), .slice A n c], .int .u32 a, .int .i64 id] w (RNew rm ea K (putQ rm ea (clOf rs) a id).1 (.int .i64 (putQ rm ea (clOf rs) a id).2) w) := by
  obtain ⟨i0, hi0, hz0, hz1, hz2⟩ := info_parts info_client
  obtain ⟨j0, hj0, hy0, hy1, hy2⟩ := info_parts info_int
  have P0 := Lib.hid (PW.start (room := (rm : Int)) (each := (ea : Int)) hR)
  obtain ⟨V0, hV0⟩ : ∃ V0, (w.alloc (.cells #[.int .i64 (rm : Int), .int .i64 (ea : Int), .slice A n c] 40)).alloc (.cells #[.int .i64 0, .int .i64 0, .slice none 0 0] 40) = V0 := ⟨_, rfl⟩
  rw [hV0] at P0
  have b0 := P0.out.b.cell 0
  have b1 := P0.out.b.cell 1
  have b2 := P0.out.b.cell 2
  have HOF := Lib.hid ((rof44 rm ea A n c _ rs a V0 P0.out.r hn).mono fun e w' h => of_one h)
  obtain ⟨M, hM⟩ : ∃ M, manyC (clOf rs) = M := ⟨_, rfl⟩
  obtain ⟨gl, hg⟩ : ∃ gl, getC (clOf rs) a = gl := ⟨_, rfl⟩
  have hMI : (M : Int) ≤ 1000000 := by omega
  have hglI : (gl.length : Int) ≤ 1000000 := by rw [← hg]; omega
  have hrI : (rm : Int) ≤ 1024 := by omega
  have heI : (ea : Int) ≤ 1024 := by omega
  have HN := Lib.hid (And.intro hn (And.intro hm (And.intro hM hg)))
  have HV0 := Lib.hid hV0
  clear hR hn hm hgl hrm hea hM hg hV0
  go_enter Try.func17, Try.ntmps17
  go_upto_region 1 with (fail)
  rw [HV0.out]
  go_wp2_with (fail)
  refine HOF.out.mono ?_
  rintro e V1 ⟨z, v, rfl, hb1, hcase⟩
  have P1 := Lib.hid (P0.out.below hb1)
  have HC := Lib.hid hcase
  have HSL := Lib.hid (of_sl P1.out.r.each hcase)
  clear hb1 hcase b0 b1 b2 HOF
  have b0 := P1.out.b.cell 0
  have b1 := P1.out.b.cell 1
  have b2 := P1.out.b.cell 2
  have hlt := P1.out.b.lt
  have hrefl : Below V1.heap.size V1 V1 := Below.refl _ _
  have HLEN := Lib.hid (fun W (hb : Below V1.heap.size V1 W) => rLen44 rm ea A n c _ rs W (P1.out.below hb).r HN.out.1 HN.out.2.1)
  rw [HN.out.2.2.1] at HLEN
  go_wp2_with (fail)
  go_region_held3 (fun w' => w'.cell? ⟨w.heap.size, 0, none⟩ = some (.int .i64 (rm : Int)) ∧ w'.cell? ⟨w.heap.size, 1, none⟩ = some (.int .i64 (ea : Int)) ∧ w'.cell? ⟨w.heap.size, 2, none⟩ = some (.slice A n c) ∧ Below V1.heap.size V1 w')
    (first | assumption | exact ⟨b0, b1, b2, hrefl⟩ | exact keepP (by assumption) | exact keepP ⟨b0, b1, b2, hrefl⟩ | exact keepPC hlt (by assumption) hb | exact keepPC hlt (keepP ⟨b0, b1, b2, hrefl⟩) hb)
    (first
      | (go_at_call 21; refine (HLEN.out _ (lastP (by assumption))).mono ?_; rintro e w' ⟨rfl, hb⟩; have hbs := hb.size))
  have hbf : Below V1.heap.size V1 w' := lastP (by assumption)
  have P3 := Lib.hid (P1.out.below hbf)
  have HSL3 := Lib.hid (And.intro (HSL.out.1.below hbf fun i hi => HSL.out.1.lt i hi) HSL.out.2)
  clear hbf b0 b1 b2 HLEN HSL hlt hrefl
  have c0 := P3.out.b.cell 0
  have c1 := P3.out.b.cell 1
  have c2 := P3.out.b.cell 2
  have c3 := P3.out.z.cell 0
  have c4 := P3.out.z.cell 1
  have c5 := P3.out.z.cell 2
  have c6 := P3.out.z.frozen 0
  have c7 := P3.out.z.frozen 1
  have c8 := P3.out.z.frozen 2
  by_cases hfull : rm ≤ M
  · have hI : (rm : Int) ≤ (M : Int) := by omega
    have HPQ : RowKit.Hid (putQ rm ea (clOf rs) a id = (clOf rs, 8)) := Lib.hid (by unfold putQ; rw [HN.out.2.2.1, if_pos hfull])
    clear hfull
    go_wp2_with (fail)
    (try simp only [Exit.inBlock, Exit.then])
    have hends := P3.out.ends
    refine bodyPost_ret (res_cell_tmp2 rfl _ _ (w.heap.size + 1) 40 #[.int .i64 (rm : Int), .int .i64 (ea : Int), .slice A n c] _ rfl hends.1 Try.underlying40 rfl agg_queue) rfl ?_
    exact ⟨A, n, c, rs, by rw [HPQ.out]; rfl, hends.2.1, by rw [HPQ.out], hends.2.2⟩
  have hI : ¬ (rm : Int) ≤ (M : Int) := by omega
  rw [HN.out.2.2.2] at HSL3
  obtain ⟨L, hL⟩ : ∃ L, gl.length = L := ⟨_, rfl⟩
  rw [hL] at HSL3
  obtain ⟨Av, cv, hv, _, _⟩ := HSL3.out.1.shape
  subst hv
  have hLI : (L : Int) ≤ 1000000 := by omega
  by_cases hwork : ea ≤ L
  · have hI2 : (ea : Int) ≤ (L : Int) := by omega
    have HPQ : RowKit.Hid (putQ rm ea (clOf rs) a id = (clOf rs, 11)) := Lib.hid (by unfold putQ; rw [HN.out.2.2.1, if_neg hfull, HN.out.2.2.2, hL, if_pos hwork])
    clear hfull hwork
    go_wp2_with (fail)
    (try simp only [Exit.inBlock, Exit.then])
    have hends := P3.out.ends
    refine bodyPost_ret (res_cell_tmp2 rfl _ _ (w.heap.size + 1) 40 #[.int .i64 (rm : Int), .int .i64 (ea : Int), .slice A n c] _ rfl hends.1 Try.underlying40 rfl agg_queue) rfl ?_
    exact ⟨A, n, c, rs, by rw [HPQ.out]; rfl, hends.2.1, by rw [HPQ.out], hends.2.2⟩
  have hI2 : ¬ (ea : Int) ≤ (L : Int) := by omega
  have HW := Lib.hid (And.intro hfull (And.intro hwork hL))
  clear hfull hwork hL
  go_wp2_with (fail)
  go_loopg [32] L (fun gg v32 wx => ∃ k : Nat, v32 = .int .i64 (k : Int) ∧ Aside (gg + k = L ∧ ∀ x ∈ gl.take k, x ≠ id) ∧ Aside (wx = w'))
  case atStart => exact ⟨0, rfl, ⟨by omega, fun x hx => by simp at hx⟩, rfl⟩
  case round =>
    obtain ⟨k, rfl, hgk, hwr⟩ := hrel
    have hwr := hwr.out
    subst hwr
    by_cases hk : k < L
    · have hkI : (k : Int) < (L : Int) := by omega
      obtain ⟨x, hx⟩ : ∃ x, gl[k]? = some x := ⟨_, List.getElem?_eq_getElem (by have := HW.out.2.2; omega)⟩
      obtain ⟨g, cap, hv, hgl, _, _, hcell⟩ := HSL3.out.1.form (by omega)
      injection hv with hA _ hc
      subst hA hc
      have e0 : wr.cell? ⟨g, k, none⟩ = some (.int .i64 x) := hcell k _ (by rw [List.getElem?_map, hx]; rfl)
      have htk : gl.take (k + 1) = gl.take k ++ [x] := by rw [List.take_add_one, hx]; rfl
      by_cases hxi : x = id
      · subst hxi
        have hmem : x ∈ gl := List.mem_of_getElem? hx
        have HPQ : RowKit.Hid (putQ rm ea (clOf rs) a x = (clOf rs, 4)) := Lib.hid (by unfold putQ; rw [HN.out.2.2.1, if_neg HW.out.1, HN.out.2.2.2, HW.out.2.2, if_neg HW.out.2.1, if_pos hmem])
        clear hmem hx htk hcell hk
        go_wp2_with (fail)
        (try simp only [Exit.inBlock, Exit.then])
        have hends := P3.out.ends
        refine bodyPost_ret (res_cell_tmp2 rfl _ _ (w.heap.size + 1) 40 #[.int .i64 (rm : Int), .int .i64 (ea : Int), .slice A (n) c] _ rfl hends.1 Try.underlying40 rfl agg_queue) rfl ?_
        exact ⟨A, n, c, rs, by rw [HPQ.out]; rfl, hends.2.1, by rw [HPQ.out], hends.2.2⟩
      · have hq : (x == id) = false := by simp [hxi]
        have HK := Lib.hid (And.intro hk (And.intro htk hxi))
        clear hx htk hcell hk hxi
        go_wp2_with (fail)
        go_roundg (L - (k + 1))
        case measure => have := hgk.out.1; have := HK.out.1; omega
        case rel =>
          refine ⟨k + 1, by go_num, ⟨by have := hgk.out.1; have := HK.out.1; omega, fun y hy => ?_⟩, rfl⟩
          rw [HK.out.2.1] at hy
          rcases List.mem_append.1 hy with hy | hy
          · exact hgk.out.2 y hy
          · rw [List.mem_singleton.1 hy]; exact HK.out.2.2
    · have hkI : ¬ (k : Int) < (L : Int) := by omega
      have hnm : id ∉ gl := fun h => hgk.out.2 id (by rw [List.take_of_length_le (by have := HW.out.2.2; omega)]; exact h) rfl
      have HPQ : RowKit.Hid (putQ rm ea (clOf rs) a id = (addC (clOf rs) a id, 0)) := Lib.hid (by unfold putQ; rw [HN.out.2.2.1, if_neg HW.out.1, HN.out.2.2.2, HW.out.2.2, if_neg HW.out.2.1, if_neg hnm])
      have HSE := Lib.hid (sl_empty_any wr 100 2 wr.heap.size rfl)
      have HSR := Lib.hid (src_sl (P := Try.prog) Try.underlying38 (P3.out.r.s.alloc (.cells #[] 100)) (flatR_one P3.out.r.each))
      have q2 := (P3.out.b.alloc (.cells #[] 100)).cell 2
      clear hnm hk
      go_upto_region 13 with (at_builtin; go_must (refine wpList_append_sl _ rfl (.tmp 41) (.tmp 43) 38 38 rfl 100 i0 (.agg #[.int .u32 0, .slice none 0 0]) 2 32 Try.underlying38 hi0 hz0 hz1 hz2 rfl (.slice (some ⟨wr.heap.size, 0, none⟩) 0 0) 0 [] rfl HSE.out _ rfl n _ HSR.out (by have := HN.out; unfold maxLen; omega) (by have := HN.out; omega) ?_); intro v3 w3 hs3 hg3 hv3; rw [Nat.zero_add] at hs3; obtain ⟨A3, k3, rfl, _, _⟩ := hs3.shape; have H3 := Lib.hid (put_copy P3.out hs3 hg3 hv3); clear hs3 hg3 hv3; have d2 := H3.out.1.b.cell 2; have d9 := H3.out.1.b.frozen 2)
      have P4 := Lib.hid H3.out.2.2
      obtain ⟨V4, hV4⟩ : ∃ V4, w3.setCell ⟨w.heap.size, 2, none⟩ (.slice A3 n k3) = V4 := ⟨_, rfl⟩
      rw [hV4] at P4 ⊢
      have HV4 := Lib.hid hV4
      clear hV4 d2 d9 q2 c0 c1 c2 c3 c4 c5 c6 c7 c8
      have HOWN : RowKit.Hid ((∀ i, (Value.slice A3 n k3).ownBlock = some i → wr.heap.size ≤ i) ∧ KeepK (fun i => i < wr.heap.size ∧ i ≠ w.heap.size) wr V4) := Lib.hid ⟨H3.out.2.1.2, by
        rw [← HV4.out]
        exact (H3.out.2.1.1.mono fun i hi => hi.1).setCell (p := ⟨w.heap.size, 2, none⟩) (fun i hi => hi.2) _⟩
      rcases HC.out with ⟨rfl, hv0, hno⟩ | ⟨s, l, r, hrs, hs, rfl⟩
      · have HSL5 := Lib.hid ((P4.out.r.s.alloc (.cells #[.int .i64 id] 3)).alloc (.cells #[.int .u32 a, .slice (some ⟨V4.heap.size, 0, none⟩) 1 1] 100))
        have HSR5 := Lib.hid (src_two (P := Try.prog) Try.underlying38 (V4.alloc (.cells #[.int .i64 id] 3)) 100 (.int .u32 a) (.slice (some ⟨V4.heap.size, 0, none⟩) 1 1) rfl rfl (V4.heap.size + 1) (by simp))
        have HFIN : RowKit.Hid (clOf (rs ++ [((a, [id]), .slice (some ⟨V4.heap.size, 0, none⟩) 1 1)]) = addC (clOf rs) a id) := Lib.hid (by
          rw [clOf_snoc, addC_new fun p hp => by
            obtain ⟨q, hq, rfl⟩ := List.mem_map.1 hp
            exact hno q hq])
        have q0 := P4.out.b.cell 2
        have q1 := ((P4.out.b.alloc (.cells #[.int .i64 id] 3)).alloc (.cells #[.int .u32 a, .slice (some ⟨V4.heap.size, 0, none⟩) 1 1] 100)).cell 2
        clear hno hv0
        go_upto_region 16 with (at_builtin; go_must (refine wpList_append_sl _ rfl (.tmp 49) (.tmp 54) 38 38 rfl 100 i0 (.agg #[.int .u32 0, .slice none 0 0]) 2 32 Try.underlying38 hi0 hz0 hz1 hz2 rfl (.slice A3 n k3) n _ rfl HSL5.out (.slice (some ⟨V4.heap.size + 1, 0, none⟩) 1 1) rfl 1 [.int .u32 a, .slice (some ⟨V4.heap.size, 0, none⟩) 1 1] HSR5.out (by have := HN.out; unfold maxLen; omega) (by have := HN.out; omega) ?_); go_must (intro v5 w5 hs5 hg5 hv5; obtain ⟨A5, k5, rfl, _, _⟩ := hs5.shape; have H5 := Lib.hid (put_new (id := id) P3.out.r P4.out HOWN.out hs5 hg5 hv5 P3.out.s); clear hs5 hg5 hv5; have d2 := H5.out.1.cell 2; have d9 := H5.out.1.frozen 2))
        have P6 := Lib.hid H5.out.2
        obtain ⟨V6, hV6⟩ : ∃ V6, w5.setCell ⟨w.heap.size, 2, none⟩ (.slice A5 (n + 1) k5) = V6 := ⟨_, rfl⟩
        rw [hV6] at P6 ⊢
        clear hV6 d2 d9 q0 q1
        have m0 := P6.out.b.cell 0
        have m1 := P6.out.b.cell 1
        have m2 := P6.out.b.cell 2
        have m3 := P6.out.z.cell 0
        have m4 := P6.out.z.cell 1
        have m5 := P6.out.z.cell 2
        have m6 := P6.out.z.frozen 0
        have m7 := P6.out.z.frozen 1
        have m8 := P6.out.z.frozen 2
        have m9 := P6.out.b.frozen 2
        go_wp2_with (fail)
        (try simp only [Exit.inBlock, Exit.then])
        have hends := P6.out.ends
        refine bodyPost_ret (res_cell_tmp2 rfl _ _ (w.heap.size + 1) 40 #[.int .i64 (rm : Int), .int .i64 (ea : Int), .slice A5 (n + 1) k5] _ rfl hends.1 Try.underlying40 rfl agg_queue) rfl ?_
        exact ⟨A5, n + 1, k5, rs ++ [((a, [id]), .slice (some ⟨V4.heap.size, 0, none⟩) 1 1)], by rw [HPQ.out]; rfl, hends.2.1, by rw [HPQ.out]; exact HFIN.out, hends.2.2⟩
      · subst hrs
        have hl : l = gl := by rw [← getC_split hs (l := l) (r := r) (v := .slice Av L cv)]; exact HN.out.2.2.2
        subst hl
        have hlen := P4.out.r.len
        rw [List.length_append, List.length_cons] at hlen
        obtain ⟨g3, cap, hv, hg3l, _, _, _⟩ := P4.out.r.s.form (by omega)
        injection hv with hA _ hc
        subst hA hc
        have hgs : (s ++ ((a, l), .slice Av L cv) :: r)[s.length]? = some ((a, l), .slice Av L cv) := by simp
        have hones : ∀ u ∈ l.map i64V, u.oneCell' = true := fun u hu => by obtain ⟨z, _, rfl⟩ := List.mem_map.1 hu; rfl
        have hVL : Sl V4 1 (.slice Av L cv) L (l.map i64V) := HSL3.out.1.keepK HOWN.out.2 fun i hi => ⟨HSL3.out.1.lt i hi, by rcases HSL3.out.2 i hi with h | h <;> omega⟩
        have hVd : Sl V4.drew 1 (.slice Av L cv) L (l.map i64V) := hVL.drew
        have HEa := Lib.hid (sl_empty_any V4.drew 3 1 V4.heap.size rfl)
        have HEb := Lib.hid (HEa.out.alloc (.cells #[.int .i64 id] 3))
        have HEc := Lib.hid (sl_empty_any (V4.drew.alloc (.cells #[.int .i64 id] 3)) 3 1 (V4.heap.size + 1) (by first | (simp; done) | (simp; rfl)))
        have HSa := Lib.hid (src_sl (P := Try.prog) Try.underlying62 (hVd.alloc (.cells #[] 3)) hones)
        have HSb := Lib.hid (src_sl (P := Try.prog) Try.underlying62 ((hVd.alloc (.cells #[] 3)).alloc (.cells #[.int .i64 id] 3)) hones)
        have HSc := Lib.hid (src_sl (P := Try.prog) Try.underlying62 ((hVd.alloc (.cells #[.int .i64 id] 3)).alloc (.cells #[] 3)) hones)
        have kd : KeepK (fun i => i < V4.heap.size) V4 V4.drew := KeepK.drew (KeepK.refl _ _)
        have ka : KeepK (fun i => i < V4.heap.size) V4 (V4.drew.alloc (.cells #[] 3)) := kd.alloc (fun i hi => hi) _
        have kc : KeepK (fun i => i < V4.heap.size) V4 (V4.drew.alloc (.cells #[.int .i64 id] 3)) := kd.alloc (fun i hi => hi) _
        have kab : KeepK (fun i => i < V4.heap.size) V4 ((V4.drew.alloc (.cells #[] 3)).alloc (.cells #[.int .i64 id] 3)) := ka.alloc (fun i hi => Nat.lt_of_lt_of_le hi ka.size) _
        have kcc : KeepK (fun i => i < V4.heap.size) V4 ((V4.drew.alloc (.cells #[.int .i64 id] 3)).alloc (.cells #[] 3)) := kc.alloc (fun i hi => Nat.lt_of_lt_of_le hi kc.size) _
        have KK := Lib.hid (And.intro ka (And.intro kab kcc))
        have bb : Blk ((V4.drew.alloc (.cells #[] 3)).alloc (.cells #[.int .i64 id] 3)) (V4.heap.size + 1) 3 #[.int .i64 id] := heap_alloc2_new V4.drew _ _
        have bc : Blk ((V4.drew.alloc (.cells #[.int .i64 id] 3)).alloc (.cells #[] 3)) V4.heap.size 3 #[.int .i64 id] := (Blk.new V4.drew _ _).alloc _
        have BB := Lib.hid (And.intro bb bc)
        have q0 := P4.out.drew.b.cell 2
        have qa := (P4.out.drew.b.alloc (.cells #[] 3)).cell 2
        have qi := (P4.out.drew.b.alloc (.cells #[.int .i64 id] 3)).cell 2
        have qei := ((P4.out.drew.b.alloc (.cells #[] 3)).alloc (.cells #[.int .i64 id] 3)).cell 2
        have qie := ((P4.out.drew.b.alloc (.cells #[.int .i64 id] 3)).alloc (.cells #[] 3)).cell 2
        have HLL := Lib.hid (show L ≤ 1000000 by omega)
        have hsn : s.length < n := by omega
        have hsnI : (s.length : Int) < (n : Int) := by omega
        have hs0I : ¬ (s.length : Int) < 0 := by omega
        have HFIN : RowKit.Hid (∀ v', clOf (s ++ ((a, l ++ [id]), v') :: r) = addC (clOf (s ++ ((a, l), .slice Av L cv) :: r)) a id) := Lib.hid fun v' => addC_split hs
        have HG3 := Lib.hid (HOWN.out.1 g3 rfl)
        clear hlen hones hVL hVd kd ka kc kab kcc bb bc hs
        go_upto_region 15 with (fail)
        go_cut [] (fun wx => ∃ v5 : Value, Aside (PW w wx rm ea K (.slice (some ⟨g3, 0, none⟩) n k3) n (s ++ ((a, l ++ [id]), v5) :: r)))
        case first =>
          go_wp2_with (fail)
          go_region_held3 (fun w' => w'.cell? ⟨w.heap.size, 2, none⟩ = some (.slice (some ⟨g3, 0, none⟩) n k3)) (first | exact q0 | exact qa | exact qi | exact qei | exact qie | exact h5s | exact h5c | exact h4c | exact h4i)
            (first
              | (refine step_append_sl _ (by rfl) (.tmp 62) (.tmp 64) 62 62 rfl 3 j0 (.int .i64 0) 1 8 Try.underlying62 hj0 hy0 hy1 hy2 rfl (.slice A4 L c4) L _ rfl (H4a.out.1.2.1.alloc _) (.slice (some ⟨w4.heap.size, 0, none⟩) 1 1) rfl 1 [.int .i64 id] (src_new (P := Try.prog) Try.underlying62 w4 3 (.int .i64 id) rfl) (by have := HLL.out; unfold maxLen; omega) (by have := HLL.out; omega) ?_; intro v5 w5 hs5 hg5 hv5; obtain ⟨A5, c5, rfl, _, _⟩ := hs5.shape; have H5 := Lib.hid (put_app (V := V4) (H4a.out.1.1.alloc (fun i hi => by have : i < V4.heap.size := hi; have := H4a.out.1.1.size; omega) _) hs5 hg5 H4a.out.1.2.2 hv5); have h5c := (P4.out.keep H5.out.1).b.cell 2; have d2 := (P4.out.keep H5.out.1).r.s.cell (g := g3) rfl (flatR_get hgs).2; have d9 := (P4.out.keep H5.out.1).r.s.free (g := g3) rfl (j := s.length * 2 + 1) (by omega); have H6 := Lib.hid (put_old (id := id) P3.out.r P4.out ⟨HG3.out, HOWN.out.2⟩ H5.out.1 (by rw [HW.out.2.2, List.map_append]; exact H5.out.2.1) H5.out.2.2 P3.out.s); have h5s := H6.out.b.cell 2; clear hs5 hg5 hv5)
              | (refine step_append_sl _ (by rfl) (.tmp 62) (.tmp 64) 62 62 rfl 3 j0 (.int .i64 0) 1 8 Try.underlying62 hj0 hy0 hy1 hy2 rfl (.slice A4 L c4) L _ rfl H4b.out.1.2.1 (.slice (some ⟨V4.heap.size + 1, 0, none⟩) 1 1) rfl 1 [.int .i64 id] (src_sl (P := Try.prog) Try.underlying62 (sl_one H4b.out.2) (fun u hu => by rw [List.mem_singleton.1 hu]; rfl)) (by have := HLL.out; unfold maxLen; omega) (by have := HLL.out; omega) ?_; intro v5 w5 hs5 hg5 hv5; obtain ⟨A5, c5, rfl, _, _⟩ := hs5.shape; have H5 := Lib.hid (put_app (V := V4) H4b.out.1.1 hs5 hg5 H4b.out.1.2.2 hv5); have h5c := (P4.out.keep H5.out.1).b.cell 2; have d2 := (P4.out.keep H5.out.1).r.s.cell (g := g3) rfl (flatR_get hgs).2; have d9 := (P4.out.keep H5.out.1).r.s.free (g := g3) rfl (j := s.length * 2 + 1) (by omega); have H6 := Lib.hid (put_old (id := id) P3.out.r P4.out ⟨HG3.out, HOWN.out.2⟩ H5.out.1 (by rw [HW.out.2.2, List.map_append]; exact H5.out.2.1) H5.out.2.2 P3.out.s); have h5s := H6.out.b.cell 2; clear hs5 hg5 hv5)
              | (refine step_append_sl _ (by rfl) (.tmp 62) (.tmp 64) 62 62 rfl 3 j0 (.int .i64 0) 1 8 Try.underlying62 hj0 hy0 hy1 hy2 rfl (.slice A4 L c4) L _ rfl H4c.out.1.2.1 (.slice (some ⟨V4.heap.size, 0, none⟩) 1 1) rfl 1 [.int .i64 id] (src_sl (P := Try.prog) Try.underlying62 (sl_one H4c.out.2) (fun u hu => by rw [List.mem_singleton.1 hu]; rfl)) (by have := HLL.out; unfold maxLen; omega) (by have := HLL.out; omega) ?_; intro v5 w5 hs5 hg5 hv5; obtain ⟨A5, c5, rfl, _, _⟩ := hs5.shape; have H5 := Lib.hid (put_app (V := V4) H4c.out.1.1 hs5 hg5 H4c.out.1.2.2 hv5); have h5c := (P4.out.keep H5.out.1).b.cell 2; have d2 := (P4.out.keep H5.out.1).r.s.cell (g := g3) rfl (flatR_get hgs).2; have d9 := (P4.out.keep H5.out.1).r.s.free (g := g3) rfl (j := s.length * 2 + 1) (by omega); have H6 := Lib.hid (put_old (id := id) P3.out.r P4.out ⟨HG3.out, HOWN.out.2⟩ H5.out.1 (by rw [HW.out.2.2, List.map_append]; exact H5.out.2.1) H5.out.2.2 P3.out.s); have h5s := H6.out.b.cell 2; clear hs5 hg5 hv5)
              | (refine step_append_sl _ (by rfl) (.tmp 60) (.tmp 61) 62 62 rfl 3 j0 (.int .i64 0) 1 8 Try.underlying62 hj0 hy0 hy1 hy2 rfl (.slice (some ⟨V4.heap.size, 0, none⟩) 0 0) 0 [] rfl HEa.out (.slice Av L cv) rfl L _ HSa.out (by have := HLL.out; unfold maxLen; omega) (by have := HLL.out; omega) ?_; intro v4 w4 hs4 hg4 hv4; simp only [Nat.zero_add, List.nil_append] at hs4; obtain ⟨A4, c4, rfl, _, _⟩ := hs4.shape; have H4a := Lib.hid (And.intro (put_app (V := V4) KK.out.1 hs4 hg4 (fun i hi => by have h7 : V4.heap.size = i := (by simpa [Value.ownBlock] using hi); omega) hv4) True.intro); have h4c := (P4.out.keep H4a.out.1.1).b.cell 2; have h4i := ((P4.out.keep H4a.out.1.1).b.alloc (.cells #[.int .i64 id] 3)).cell 2; clear hs4 hg4 hv4)
              | (refine step_append_sl _ (by rfl) (.tmp 60) (.tmp 61) 62 62 rfl 3 j0 (.int .i64 0) 1 8 Try.underlying62 hj0 hy0 hy1 hy2 rfl (.slice (some ⟨V4.heap.size, 0, none⟩) 0 0) 0 [] rfl HEb.out (.slice Av L cv) rfl L _ HSb.out (by have := HLL.out; unfold maxLen; omega) (by have := HLL.out; omega) ?_; intro v4 w4 hs4 hg4 hv4; simp only [Nat.zero_add, List.nil_append] at hs4; obtain ⟨A4, c4, rfl, _, _⟩ := hs4.shape; have H4b := Lib.hid (And.intro (put_app (V := V4) KK.out.2.1 hs4 hg4 (fun i hi => by have h7 : V4.heap.size = i := (by simpa [Value.ownBlock] using hi); omega) hv4) (BB.out.1.grown hg4 (fun e => by simp [Value.ownBlock] at e))); have h4c := (P4.out.keep H4b.out.1.1).b.cell 2; have h4i := ((P4.out.keep H4b.out.1.1).b.alloc (.cells #[.int .i64 id] 3)).cell 2; clear hs4 hg4 hv4)
              | (refine step_append_sl _ (by rfl) (.tmp 60) (.tmp 61) 62 62 rfl 3 j0 (.int .i64 0) 1 8 Try.underlying62 hj0 hy0 hy1 hy2 rfl (.slice (some ⟨V4.heap.size + 1, 0, none⟩) 0 0) 0 [] rfl HEc.out (.slice Av L cv) rfl L _ HSc.out (by have := HLL.out; unfold maxLen; omega) (by have := HLL.out; omega) ?_; intro v4 w4 hs4 hg4 hv4; simp only [Nat.zero_add, List.nil_append] at hs4; obtain ⟨A4, c4, rfl, _, _⟩ := hs4.shape; have H4c := Lib.hid (And.intro (put_app (V := V4) KK.out.2.2 hs4 hg4 (fun i hi => by have h7 : V4.heap.size + 1 = i := (by simpa [Value.ownBlock] using hi); omega) hv4) (BB.out.2.grown hg4 (fun e => by simp [Value.ownBlock] at e))); have h4c := (P4.out.keep H4c.out.1.1).b.cell 2; have h4i := ((P4.out.keep H4c.out.1.1).b.alloc (.cells #[.int .i64 id] 3)).cell 2; clear hs4 hg4 hv4))
          all_goals
            (try go_wp2_with (fail))
            go_meet
            case rel => exact ⟨_, H6.out⟩
        case rest =>
          obtain ⟨v5, hA⟩ := hcut
          obtain ⟨V7, hV7⟩ : ∃ V7, V7 = wc := ⟨_, rfl⟩
          subst hV7
          have P7 := Lib.hid hA.out
          clear q0 qa qi qei qie
          have m0 := P7.out.b.cell 0
          have m1 := P7.out.b.cell 1
          have m2 := P7.out.b.cell 2
          have m3 := P7.out.z.cell 0
          have m4 := P7.out.z.cell 1
          have m5 := P7.out.z.cell 2
          have m6 := P7.out.z.frozen 0
          have m7 := P7.out.z.frozen 1
          have m8 := P7.out.z.frozen 2
          go_wp2_with (fail)
          (try simp only [Exit.inBlock, Exit.then])
          have hends := P7.out.ends
          refine bodyPost_ret (res_cell_tmp2 rfl _ _ (w.heap.size + 1) 40 #[.int .i64 (rm : Int), .int .i64 (ea : Int), .slice (some ⟨g3, 0, none⟩) n k3] _ rfl hends.1 Try.underlying40 rfl agg_queue) rfl ?_
          exact ⟨some ⟨g3, 0, none⟩, n, k3, _, by rw [HPQ.out]; rfl, hends.2.1, by rw [HPQ.out]; exact HFIN.out v5, hends.2.2⟩
end Go.Proofs.Ytkdfbmbccopchaa
