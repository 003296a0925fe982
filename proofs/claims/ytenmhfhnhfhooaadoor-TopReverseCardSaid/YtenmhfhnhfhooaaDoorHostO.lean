/- The walk of hosts.Of, at a name that tells an address. Condition: the table of powers lies in memory as the program's text lays it. -/
import Derived.Test.YtenmhfhnhfhooaaDoorHostQ
import Derived.Test.YtenmhfhnhfhooaaDoorLabelsM
import Derived.Test.YtenmhfhnhfhooaaDoorSame
namespace Go.Proofs.YtenmhfhnhfhooaaDoor
open Go.RowKit Go.Shelf
attribute [local go_sem] Oper.semAt_some

theorem sl_make6 (w : World) : Sl (w.alloc (.cells #[.string ⟨#[]⟩, .string ⟨#[]⟩, .string ⟨#[]⟩, .string ⟨#[]⟩, .string ⟨#[]⟩, .string ⟨#[]⟩] 9)) 1 (.slice (some ⟨w.heap.size, 0, none⟩) 0 6) 0 [] := by
  refine ⟨rfl, .inr ⟨w.heap.size, 6, rfl, by simp, by omega, by unfold maxLen; omega, fun j hj => ?_, fun j u hu => by simp at hu⟩⟩
  have hB := Blk.new w 9 #[.string ⟨#[]⟩, .string ⟨#[]⟩, .string ⟨#[]⟩, .string ⟨#[]⟩, .string ⟨#[]⟩, .string ⟨#[]⟩]
  refine ⟨?_, hB.frozen j⟩
  rw [hB.cell j]
  match j, hj with
  | 0, _ => rfl
  | 1, _ => rfl
  | 2, _ => rfl
  | 3, _ => rfl
  | 4, _ => rfl
  | 5, _ => rfl
  | j + 6, h => omega

theorem joinP_len (m : ByteArray) (ls : List Bs) : (joinP [0] ls).1.length ≤ 255 := by
  unfold joinP
  split
  · simp
  · split
    · simp
    · split
      · simp
      · simp only [List.length_append] at *; omega
set_option maxRecDepth 100000 in
set_option maxHeartbeats 4000000 in
theorem ofA_any (a : Nat) (ha : a ≤ 4294967295) (s : ByteArray) (hs : s.size ≤ maxLen) (hn : isName s.data.toList = true) (L : List Bs) (hL : namL s.data.toList = L) (h6 : L.length = 6) (h4 : L.take 4 = (numsA a 4).reverse) (hsame : sameB s.data.toList (nameA a) = true) (w : World) (htab : PowTab w) :
    Calls Tryd.prog 7 #[.string s] w fun e w' => e = .returned (.tuple #[.int .u32 (a : Int), .int .i64 0]) ∧ Below w.heap.size w w' := by
  obtain ⟨i0, hi0, hz0, hz1, hz2⟩ := info_parts info_str
  obtain ⟨n, hn8⟩ : ∃ n : Nat, 8 ≤ n := ⟨8, by omega⟩
  refine (callsIn_wide (n := n)).1 ?_
  have h1n : 1 ≤ n := by omega
  have hck : chkN s.data.toList = 0 := by
    rcases chk_cases s.data.toList with h | h
    · exact h.2
    · rw [hn] at h; exact absurd h.1 (by simp)
  have hCk := fun W => (callsIn_wide (n := n - 1)).2 (Check_any s hs W)
  rw [hck] at hCk
  have HCk := Lib.hid hCk
  have hmk : ∀ w : World, (Instr.makeSlice 36 (.int .i64 0) (.int .i64 6)).run Tryd.prog w = .ok (.slice (some ⟨w.heap.size, 0, none⟩) 0 6) (w.alloc (.cells #[.string ⟨#[]⟩, .string ⟨#[]⟩, .string ⟨#[]⟩, .string ⟨#[]⟩, .string ⟨#[]⟩, .string ⟨#[]⟩] 9)) := by intro w; kernel_rfl
  have HT := Lib.hid htab
  have HN := Lib.hid (And.intro hL (And.intro h6 (And.intro h4 (And.intro hsame hs))))
  clear htab hCk hck hL h6 h4 hsame hn hs
  refine callsIn_of_wp_marks Tryd.func7 rfl trivial ?_ rfl
  simp only [Tryd.ntmps7, List.size_toArray, List.length_cons, List.length_nil, Nat.reduceAdd, Nat.reduceSub, Array.replicate_succ, Array.replicate_zero, List.push_toArray, List.append_toArray, List.nil_append, List.cons_append]
  gi_wp2_with (first
    | (refine ⟨trivial, ?_⟩; gi_at_call 15; refine (HCk.out _).mono ?_; rintro e w1 ⟨rfl, hb1⟩; have HB1 := Lib.hid hb1; clear hb1)
    | (refine ⟨trivial, ?_⟩; gi_at_call 17; refine (Labels_in _ s _).mono ?_; rintro e w' ⟨rfl, rfl⟩))
  have hb1 := HB1.out
  have hw1 := hb1.size
  obtain ⟨W0, hW0⟩ : ∃ W0, ((w1.alloc (.cells #[.string ⟨#[]⟩, .string ⟨#[]⟩, .string ⟨#[]⟩, .string ⟨#[]⟩, .string ⟨#[]⟩, .string ⟨#[]⟩] 9)).alloc (.cells #[.slice (some ⟨w1.heap.size, 0, none⟩) 0 6] 36)).alloc (.cells #[.string s] 9) = W0 := ⟨_, rfl⟩
  have hsz0 : W0.heap.size = w1.heap.size + 3 := by rw [← hW0]; simp
  have hbW : Below w.heap.size w W0 := by rw [← hW0]; exact (((hb1.alloc hb1.size _).alloc (by have := hb1.size; simp; omega) _).alloc (by have := hb1.size; simp; omega) _)
  have hsl0 : Sl W0 1 (.slice (some ⟨w1.heap.size, 0, none⟩) 0 6) 0 [] := by rw [← hW0]; exact ((sl_make6 w1).alloc _).alloc _
  have b1 : Blk W0 (w1.heap.size + 1) 36 #[.slice (some ⟨w1.heap.size, 0, none⟩) 0 6] := by
    rw [← hW0]
    have h := Blk.new (w1.alloc (.cells #[.string ⟨#[]⟩, .string ⟨#[]⟩, .string ⟨#[]⟩, .string ⟨#[]⟩, .string ⟨#[]⟩, .string ⟨#[]⟩] 9)) 36 #[.slice (some ⟨w1.heap.size, 0, none⟩) 0 6]
    rw [World.size_alloc] at h
    exact h.alloc _
  have b2 : Blk W0 (w1.heap.size + 1 + 1) 9 #[.string s] := by
    rw [← hW0]
    have h := Blk.new ((w1.alloc (.cells #[.string ⟨#[]⟩, .string ⟨#[]⟩, .string ⟨#[]⟩, .string ⟨#[]⟩, .string ⟨#[]⟩, .string ⟨#[]⟩] 9)).alloc (.cells #[.slice (some ⟨w1.heap.size, 0, none⟩) 0 6] 36)) 9 #[.string s]
    rw [World.size_alloc, World.size_alloc] at h
    exact h
  rw [hW0]
  clear hW0 HB1 hb1
  apply rangeM (gf := 30) (lb := #[.pointer (some ⟨w1.heap.size + 1 + 1, 0, none⟩)]) rfl (enters_of Tryd.func30 (by kernel_rfl) rfl)
    (Labels1_M (w1.heap.size + 1 + 1) s HN.out.2.2.2.2 W0 b2) (by omega) (Below.refl _ _) (fun _ => rfl)
    (fun X pre V => ∃ v, Blk V (w1.heap.size + 1) 36 #[v] ∧ Sl V 1 v pre.length (strs pre) ∧ (∀ g, v.ownBlock = some g → g = w1.heap.size ∨ X ≤ g) ∧ Below w.heap.size w V ∧ W0.heap.size ≤ X ∧ X ≤ V.heap.size ∧ pre.length ≤ 4)
    (fun X c pre V => c = .exit 0 ∧ pre.length = 5 ∧ ∃ v, Blk V (w1.heap.size + 1) 36 #[v] ∧ Sl V 1 v 4 (strs (pre.take 4)) ∧ (∀ g, v.ownBlock = some g → g = w1.heap.size ∨ X ≤ g) ∧ Below w.heap.size w V ∧ W0.heap.size ≤ X ∧ X ≤ V.heap.size)
    ?hI ?hIx ?h0
  case hI =>
    rintro X pre A A' ⟨v, h1, h2, h3, h4, h5, h6, h7⟩ ho
    have := ho.size
    exact ⟨v, (ho.block _ (by omega) (.inl (by omega))).trans h1, h2.keep ho.size fun g hg => ho.block g (h2.lt g hg) (by have := h3 g hg; omega), h3, ho.below h4 (Nat.le_refl _) (by omega), h5, by omega, h7⟩
  case hIx =>
    rintro X c pre A A' ⟨hc, hp, v, h1, h2, h3, h4, h5, h6⟩ ho
    have := ho.size
    exact ⟨hc, hp, v, (ho.block _ (by omega) (.inl (by omega))).trans h1, h2.keep ho.size fun g hg => ho.block g (h2.lt g hg) (by have := h3 g hg; omega), h3, ho.below h4 (Nat.le_refl _) (by omega), h5, by omega⟩
  case h0 =>
    intro X V hV hX
    have := hV.size
    refine ⟨_, (hV.block _ (by omega)).trans b1, hsl0.below hV fun g hg => ?_, fun g hg => .inl ?_, hbW.trans (hV.mono hbW.size), by omega, by omega, Nat.zero_le _⟩
    · have : w1.heap.size = g := Option.some.inj hg
      omega
    · exact (Option.some.inj hg).symm
  case hassign =>
    intro l x V K hK
    gi_wp2
    exact hK
  case hbody =>
    rintro l X pre x V hV ⟨v, h1, h2, h3, h4, h5, h6, h7⟩ hpre
    obtain ⟨A, c, rfl, hc1, hc2⟩ := h2.shape
    have c0 := h1.cell 0
    by_cases hp4 : pre.length = 4
    · have hpI : (pre.length : Int) = 4 := by omega
      have HB := Lib.hid (And.intro h1 (And.intro h2 (And.intro h3 (And.intro h4 (And.intro h5 h6)))))
      rw [hp4] at c0
      clear h1 h2 h3 h4 h5 h6 hpre h7 hc1
      gi_wp2_with (fail)
      obtain ⟨h1, h2, h3, h4, h5, h6⟩ := HB.out
      refine ⟨KeepX.refl _ _ _ _ V, rfl, ?_, _, h1, ?_, h3, h4, h5, h6⟩
      · rw [List.length_append, hp4]; rfl
      · rw [List.take_append_of_le_length (by omega), List.take_of_length_le (by omega), ← hp4]
        exact h2
    · have hpI : ((pre.length : Int) == 4) = false := by rw [beq_eq_false_iff_ne]; omega
      have f0 := h1.frozen 0
      have hpl : pre.length < 4 := by omega
      have HSL := Lib.hid (show Sl (V.alloc (.cells #[.string ⟨x.toArray⟩] 9)) 1 (.slice A pre.length c) pre.length (strs pre) from h2.alloc _)
      have HSR := Lib.hid (src_new (P := Tryd.prog) Tryd.underlying36 V 9 (.string ⟨x.toArray⟩) rfl)
      have HV := Lib.hid (And.intro h1 (And.intro h2 (And.intro h3 (And.intro h4 (And.intro h5 (And.intro h6 (And.intro hV (And.intro hsz0 hw1))))))))
      clear h1 h2 h3 h4 h5 h6 hpre h7 hc1 hc2 hV hsl0 b1 b2 hp4
      gi_wp2_with (gi_at_builtin; go_must (refine wpListIn_append_sl _ rfl (.tmp 21) (.tmp 23) 36 36 rfl 9 i0 (.string ⟨#[]⟩) 1 16 Tryd.underlying36 hi0 hz0 hz1 hz2 rfl (.slice A pre.length c) pre.length (strs pre) rfl HSL.out _ rfl 1 [.string ⟨x.toArray⟩] HSR.out (by unfold maxLen; omega) (by omega) ?_); intro v3 w3 hs3 hg3 hv3; obtain ⟨A3, c3, rfl, hc3, hm3⟩ := hs3.shape; have hx := HV.out; have k1 : Blk w3 (w1.heap.size + 1) 36 #[.slice A pre.length c] := (hx.1.alloc _).grown hg3 (fun e => by have := hx.2.2.1 _ e.symm; have := hx.2.2.2.2.1; have := hx.2.2.2.2.2.2.2.1; omega); have g0 := k1.cell 0; have p0 := k1.frozen 0; have H3 := Lib.hid (And.intro hs3 (And.intro hg3 (And.intro hv3 k1))); clear hs3 hg3 hv3 k1 hx hc3 hm3)
      obtain ⟨h1, h2, h3, h4, h5, h6, hV, hsz0, hw1⟩ := HV.out
      obtain ⟨hs3, hg3, hv3, k1⟩ := H3.out
      have hrow : ∀ i, (Value.slice A pre.length c).ownBlock = some i → (i < W0.heap.size ∨ X ≤ i) ∧ (i < w1.heap.size + 1 + 1 ∨ w1.heap.size + 1 + 1 + 1 ≤ i) := fun i hi => by have := h3 i hi; omega
      have hown : ∀ g, (Value.slice A3 (pre.length + 1) c3).ownBlock = some g → g = w1.heap.size ∨ X ≤ g := fun g hg => by
        rcases hv3 with e | e
        · exact h3 g (e.symm.trans hg)
        · rw [hg] at e
          have : g = (V.alloc (.cells #[.string ⟨x.toArray⟩] 9)).heap.size := Option.some.inj e
          rw [World.size_alloc] at this
          omega
      refine ⟨(((KeepX.refl _ _ _ _ V).alloc _).grown hg3 hrow).trans (.cell _ (by show (w1.heap.size + 1 < _ ∨ _) ∧ (w1.heap.size + 1 < _ ∨ _ ≤ w1.heap.size + 1); omega)), _, k1.set_ 0 _, ?_, hown, ?_, h5, ?_, ?_⟩
      · rw [List.length_append, strs_snoc]
        exact hs3.far (p := ⟨w1.heap.size + 1, 0, none⟩) (fun g hg => by have := hown g hg; show g ≠ w1.heap.size + 1; omega) _
      · exact ((h4.alloc (by omega) _).grown hg3 (by simp; omega) (fun g hg => by have := h3 g hg; omega)).setCell (p := ⟨w1.heap.size + 1, 0, none⟩) (by show w.heap.size ≤ w1.heap.size + 1; omega) _
      · have := hg3.size
        simp [World.setCell] at this ⊢
        omega
      · rw [List.length_append]; simp; omega
  case hdone =>
    rintro D X V hD hD2 ⟨v, h1, h2, h3, h4, h5, h6, h7⟩ hK
    have := HN.out.1
    have := HN.out.2.1
    rw [HN.out.1] at h7
    omega
  case hstop =>
    rintro D X c pre V hD hD2 hpre ⟨rfl, hp5, v, h1, h2, h3, h4, h5, h6⟩ hK
    have hw4 : pre.take 4 = (numsA a 4).reverse := by
      rw [← HN.out.2.2.1, ← HN.out.1]
      obtain ⟨r, hr⟩ := hpre
      rw [← hr, List.take_append_of_le_length (by omega)]
    rw [hw4] at h2
    obtain ⟨A, c, rfl, hc1, hc2⟩ := h2.shape
    have c0 := h1.cell 0
    have HR := Lib.hid ((callsIn_wide (n := n - 1)).2 (rev_strs A c (numsA a 4).reverse V 4 (by rw [List.length_reverse, numsA_length]) h2 (by decide)))
    rw [List.reverse_reverse] at HR
    have HV := Lib.hid (And.intro h1 (And.intro h3 (And.intro h4 (And.intro h5 (And.intro h6 (And.intro hK hc1))))))
    clear h1 h2 h3 h4 h5 h6 hK hc1 hc2 hpre hw4 hsl0 b1 b2 hp5
    gi_wp2_with (fail)
    refine ⟨trivial, HR.out.mono ?_⟩
    rintro e V2 ⟨rfl, hs2, hk2⟩
    obtain ⟨h1, h3, h4, h5, h6, hK, hc1⟩ := HV.out
    have h4s := h4.size
    have hD3 : D < V.heap.size := (Array.getElem?_eq_some_iff.1 hK).1
    have k1 : Blk V2 (w1.heap.size + 1) 36 #[.slice A 4 c] := (hk2.block _ ⟨h1.lt, fun e => by have := h3 _ e; omega⟩).trans h1
    have d0 := k1.cell 0
    have hb2 : Below w.heap.size w V2 := h4.trans (hk2.below fun i hi => ⟨by omega, fun e => by have := h3 _ e; omega⟩)
    have hK2 : V2.heap[D]? = some (.deferred (some [])) := (hk2.block _ ⟨hD3, fun e => by have := h3 _ e; omega⟩).trans hK
    have HJ := Lib.hid ((callsIn_wide (n := n - 1)).2 (join_strs A c 4 (numsA a 4) (numsA_length a 4) (by decide) V2 hs2 hc1 (by decide) (by have := printA_len a; unfold printA at this; omega)))
    have HV2 := Lib.hid (And.intro hb2 hK2)
    clear h1 h3 h4 h5 h6 hK hc1 hs2 hk2 k1 hb2 hK2 h4s hD3 HV HR
    gi_wp2_with (fail)
    refine ⟨trivial, HJ.out.mono ?_⟩
    rintro e V3 ⟨rfl, hb3⟩
    have hb3' := HV2.out.1.trans (hb3.mono HV2.out.1.size)
    have HP := Lib.hid ((callsIn_wide (n := n - 1)).2 (parseA_any a ha V3 (pow_below HT.out hb3')))
    have hK3 := (hb3.block D (Array.getElem?_eq_some_iff.1 HV2.out.2).1).trans HV2.out.2
    have HV3 := Lib.hid (And.intro hb3' hK3)
    clear hb3 hb3' hK3 HJ HV2
    gi_wp2_with (fail)
    refine ⟨trivial, HP.out.mono ?_⟩
    rintro e V4 ⟨rfl, hb3⟩
    have hb3' := HV3.out.1.trans (hb3.mono HV3.out.1.size)
    have HRv := Lib.hid ((callsIn_wide (n := n - 1)).2 (reverseA_any a ha V4 (pow_below HT.out hb3')))
    have hK3 := (hb3.block D (Array.getElem?_eq_some_iff.1 HV3.out.2).1).trans HV3.out.2
    have HV4 := Lib.hid (And.intro hb3' hK3)
    clear hb3 hb3' hK3 HP HV3
    gi_wp2_with (fail)
    refine ⟨trivial, HRv.out.mono ?_⟩
    rintro e V5 ⟨rfl, hb3⟩
    have hb3' := HV4.out.1.trans (hb3.mono HV4.out.1.size)
    have hK3 := (hb3.block D (Array.getElem?_eq_some_iff.1 HV4.out.2).1).trans HV4.out.2
    have hsm := (callsIn_wide (n := n - 1)).2 (Same_any s ⟨(nameA a).toArray⟩ HN.out.2.2.2.2 (by have := joinP_len n0 (labsA a); unfold nameA; simp [ByteArray.size]; omega) V5)
    rw [HN.out.2.2.2.1] at hsm
    have HSm := Lib.hid hsm
    have HV5 := Lib.hid (And.intro hb3' hK3)
    clear hb3 hb3' hK3 HRv HV4 hsm
    gi_wp2_with (fail)
    refine ⟨trivial, HSm.out.mono ?_⟩
    rintro e V6 ⟨rfl, hb3⟩
    have hb3' := HV5.out.1.trans (hb3.mono HV5.out.1.size)
    have hK3 := (hb3.block D (Array.getElem?_eq_some_iff.1 HV5.out.2).1).trans HV5.out.2
    have HV6 := Lib.hid (And.intro hb3' hK3)
    clear hb3 hb3' hK3 HSm HV5
    gi_wp2_with (fail)
    obtain ⟨hb3, hK3⟩ := HV6.out
    exact ⟨by simp, .inl ⟨_, _, rfl, run_takeDeferred hK3, _, results_tmp2 rfl _ _ _, rfl, hb3.trans (belowK_b (w := w) (Nat.le_refl _) V6 D _ _ (by omega) hK3 rfl rfl)⟩⟩
end Go.Proofs.YtenmhfhnhfhooaaDoor
