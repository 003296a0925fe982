/- The walk of stream.Split. -/
import Derived.Test.YtkdfbmbccopchaaStreamI
import Derived.Test.YtkdfbmbccopchaaSl
import Derived.Deep.DeepMust
namespace Go.Proofs.Ytkdfbmbccopchaa
open Go.RowKit Go.Shelf
attribute [local go_sem] Oper.semAt_some

/-- The texts of messages, as values; what is left behind the last one that came. -/
def txtV (ls : List (List UInt8)) : List Value := ls.map fun x => Value.string ⟨x.toArray⟩
def prsV (ps : List (ByteArray × ByteArray)) : List Value := ps.map fun x => Value.string x.1
def lastP (s : ByteArray) (ps : List (ByteArray × ByteArray)) : ByteArray := (ps.getLast?.map Prod.snd).getD s
theorem lastP_snoc (s : ByteArray) (ps : List (ByteArray × ByteArray)) (x : ByteArray × ByteArray) : lastP s (ps ++ [x]) = x.2 := by simp [lastP]
theorem prsV_snoc (ps : List (ByteArray × ByteArray)) (x : ByteArray × ByteArray) : prsV (ps ++ [x]) = prsV ps ++ [Value.string x.1] := by simp [prsV]
theorem prsV_length (ps : List (ByteArray × ByteArray)) : (prsV ps).length = ps.length := by simp [prsV]
theorem prsV_pairs (s : ByteArray) : prsV (pairsL s) = txtV (mss s.data.toList).1 := by
  apply List.ext_getElem?
  intro k
  rcases Nat.lt_or_ge k (mss s.data.toList).1.length with h | h
  · have hx : (mss s.data.toList).1[k]? = some (mss s.data.toList).1[k] := List.getElem?_eq_getElem h
    unfold prsV txtV
    rw [List.getElem?_map, List.getElem?_map, pairs_at hx, hx]
    rfl
  · unfold prsV txtV
    rw [List.getElem?_map, List.getElem?_map, List.getElem?_eq_none (by rw [pairs_length]; exact h), List.getElem?_eq_none h]
    rfl
theorem lastP_pairs (s : ByteArray) : lastP s (pairsL s) = ⟨((mss s.data.toList).2).toArray⟩ := by
  have hd := drop_posM s.data.toList (mss s.data.toList).1.length
  rw [List.drop_length] at hd
  have hd' : s.data.toList.drop (posM (mss s.data.toList).1 (mss s.data.toList).1.length) = (mss s.data.toList).2 := hd
  rcases Nat.eq_zero_or_pos (mss s.data.toList).1.length with h | h
  · have hn : pairsL s = [] := List.eq_nil_of_length_eq_zero (by rw [pairs_length]; exact h)
    rw [hn]
    show s = _
    rw [h, posM_zero, List.drop_zero] at hd'
    rw [← hd']
  · obtain ⟨k, hk⟩ : ∃ k, (mss s.data.toList).1.length = k + 1 := ⟨_, (Nat.succ_pred_eq_of_pos h).symm⟩
    have hx : (mss s.data.toList).1[k]? = some ((mss s.data.toList).1[k]'(by omega)) := List.getElem?_eq_getElem (by omega)
    have hp := pairs_at hx
    unfold lastP
    rw [List.getLast?_eq_getElem?, pairs_length, hk, Nat.add_sub_cancel, hp]
    show (⟨_⟩ : ByteArray) = _
    rw [← hd', hk]
theorem own_row' {B : Nat} {w : World} {v v' : Value} (h : ∀ g, v.ownBlock = some g → B ≤ g) (hB : B ≤ w.heap.size) (hv : v'.ownBlock = v.ownBlock ∨ v'.ownBlock = some w.heap.size) : ∀ g, v'.ownBlock = some g → B ≤ g := by
  intro g hg
  rcases hv with e | e
  · exact h g (e.symm.trans hg)
  · rw [hg] at e
    have : g = w.heap.size := Option.some.inj e
    omega
theorem src_one {P : Program} {tx e' : TypeId} (hk : P.underlying tx = some (.slice e')) (w : World) (t : TypeId) (u : Value) (h1 : u.oneCell' = true) : Src P 1 tx (.slice (some ⟨w.heap.size, 0, none⟩) 1 1) 1 [u] (w.alloc (.cells #[u] t)) :=
  Src.ofSlice _ hk ⟨w.heap.size, 0, none⟩ 1 1 [u] rfl (fun j x hx => by
    match j, hx with
    | 0, hx =>
      have : u = x := by simpa using hx
      subst this
      simp [Addr.add]
    | j + 1, hx => simp at hx) (fun x hx => by rw [List.mem_singleton.1 hx]; exact h1)
theorem info_str : ∃ i, Try.prog.info? 9 = some i ∧ i.zero = some (.string ⟨#[]⟩) ∧ i.size = 1 ∧ i.bytes = 16 := by
  have h : (Try.prog.info? 9).map (fun i => (i.zero, i.size, i.bytes)) = some (some (.string ⟨#[]⟩), 1, 16) := by kernel_rfl
  cases hi : Try.prog.info? 9 with
  | none => rw [hi] at h; cases h
  | some i =>
    rw [hi] at h
    simp only [Option.map_some, Option.some.injEq, Prod.mk.injEq] at h
    exact ⟨i, rfl, h.1, h.2.1, h.2.2⟩

def SplitPost (s : ByteArray) (w : World) (e : Ending) (w' : World) : Prop :=
  ∃ A c, e = .returned (.tuple #[.slice A (mss s.data.toList).1.length c, .string ⟨((mss s.data.toList).2).toArray⟩]) ∧ Sl w' 1 (.slice A (mss s.data.toList).1.length c) (mss s.data.toList).1.length (txtV (mss s.data.toList).1) ∧
    (∀ g, (Value.slice A (mss s.data.toList).1.length c).ownBlock = some g → w.heap.size ≤ g) ∧ Below w.heap.size w w'

set_option maxRecDepth 100000 in
set_option maxHeartbeats 2000000 in
theorem Split_any (s : ByteArray) (hs : s.size ≤ 1000000) (w : World) : Calls Try.prog 41 #[.string s] w (SplitPost s w) := by
  obtain ⟨n, hn⟩ : ∃ n : Nat, 8 ≤ n := ⟨8, by omega⟩
  refine (callsIn_wide (n := n)).1 ?_
  have h1n : 1 ≤ n := by omega
  have hlen : (pairsL s).length ≤ 1000000 := by
    have h := congrArg List.length (mss_enc s.data.toList)
    have hl : ∀ ls : List (List UInt8), ls.length ≤ (encM ls).length := by
      intro ls
      induction ls with
      | nil => simp
      | cons x xs ih => rw [encM_length_cons]; simp; omega
    have := hl (mss s.data.toList).1
    have hz : s.data.toList.length = s.size := by simp
    rw [List.length_append] at h
    rw [pairs_length]
    omega
  have hsm : s.size ≤ maxLen := by unfold maxLen; omega
  refine callsIn_of_wp_marks Try.func41 rfl trivial ?_ rfl
  simp only [Try.ntmps41, List.size_toArray, List.length_cons, List.length_nil, Nat.reduceAdd, Nat.reduceSub, Array.replicate_succ, Array.replicate_zero, List.push_toArray, List.append_toArray, List.nil_append, List.cons_append]
  gi_wp2_with (refine ⟨trivial, ?_⟩; gi_at_call 67; refine (messages_in _ s _).mono ?_; rintro e w' ⟨rfl, rfl⟩)
  obtain ⟨W0, hW0⟩ : ∃ W0, ((w.alloc (.cells #[.slice none 0 0] 74)).alloc (.cells #[.string s] 9)).alloc (.cells #[.string s] 9) = W0 := ⟨_, rfl⟩
  have hsz0 : W0.heap.size = w.heap.size + 3 := by rw [← hW0]; simp
  have hbW : Below w.heap.size w W0 := by rw [← hW0]; exact (((Below.refl _ _).alloc (Nat.le_refl _) _).alloc (by simp) _).alloc (by simp; omega) _
  have hout : Blk W0 w.heap.size 74 #[.slice none 0 0] := by rw [← hW0]; exact ((Blk.new w _ _).alloc _).alloc _
  have hleft : Blk W0 (w.heap.size + 1) 9 #[.string s] := by
    rw [← hW0]
    have := Blk.new (w.alloc (.cells #[.slice none 0 0] 74)) 9 #[.string s]
    rw [World.size_alloc] at this
    exact this.alloc _
  have hcap : Blk W0 (w.heap.size + 2) 9 #[.string s] := by
    rw [← hW0]
    have := Blk.new ((w.alloc (.cells #[.slice none 0 0] 74)).alloc (.cells #[.string s] 9)) 9 #[.string s]
    rw [World.size_alloc, World.size_alloc] at this
    exact this
  rw [hW0]
  clear hW0
  obtain ⟨i0, hi0, hz0, hz1, hz2⟩ := info_str
  apply rangeM (gf := 76) (lb := #[.pointer (some ⟨w.heap.size + 2, 0, none⟩)]) rfl (enters_of Try.func76 (by kernel_rfl) rfl)
    (messages1_M (w.heap.size + 2) s hsm W0 hcap) (by omega) (Below.refl _ _) (fun _ => rfl)
    (fun X pre V => ∃ v, Blk V w.heap.size 74 #[v] ∧ Sl V 1 v pre.length (prsV pre) ∧ (∀ g, v.ownBlock = some g → X ≤ g) ∧ Below w.heap.size w V ∧ X ≤ V.heap.size ∧ w.heap.size + 3 ≤ X ∧ Blk V (w.heap.size + 1) 9 #[.string (lastP s pre)])
    (fun _ _ _ _ => False)
    ?hI (fun _ _ _ _ _ h => h.elim) ?h0
  case hI =>
    rintro X pre A A' ⟨v, h1, h2, h3, h4, h5, h6, h7⟩ ho
    exact ⟨v, (ho.block _ h1.lt (.inl (by omega))).trans h1, h2.keep ho.size fun g hg => ho.block g (h2.lt g hg) (.inr (h3 g hg)), h3, ⟨ho.os.trans h4.os, ho.tape.trans h4.tape, ho.output.trans h4.output, Nat.le_trans h4.size ho.size, fun i hi => (ho.block i (by have := h4.size; omega) (.inl (by omega))).trans (h4.block i hi)⟩, Nat.le_trans h5 ho.size, h6, (ho.block _ h7.lt (.inl (by omega))).trans h7⟩
  case h0 =>
    intro X V hV hX
    exact ⟨_, (hV.block _ (by omega)).trans hout, Sl.nil _ _, fun g hg => by simp [Value.ownBlock] at hg, hbW.trans (hV.mono hbW.size), by omega, by have := hV.size; omega, (hV.block _ (by omega)).trans hleft⟩
  case hassign =>
    intro l x V K hK
    gi_wp2
    exact hK
  case hbody =>
    rintro l X pre x V hV ⟨v, h1, h2, h3, h4, h5, h6, h7⟩ hpre
    obtain ⟨A, c, rfl, hc1, hc2⟩ := h2.shape
    have c0 : V.cell? ⟨w.heap.size, 0, none⟩ = some (.slice A pre.length c) := h1.cell 0
    have f0 := h1.frozen 0
    have hlen2 : pre.length < (pairsL s).length := by have := hpre.length_le; simp at this; omega
    have hl1 : w.heap.size + 1 < V.heap.size := h7.lt
    have hsl : Sl (V.alloc (.cells #[.string x.1] 9)) 1 (.slice A pre.length c) pre.length (prsV pre) := h2.alloc _
    have hsrc := src_one (P := Try.prog) Try.underlying74 V 9 (.string x.1) rfl
    have HSL := Lib.hid hsl
    have HSR := Lib.hid hsrc
    have HV := Lib.hid (And.intro h1 (And.intro h2 (And.intro h3 (And.intro h4 (And.intro h5 (And.intro h6 (And.intro h7 hV)))))))
    clear hpre h1 h2 h3 h4 h5 h6 h7 hsl hsrc hV hout hleft hcap
    gi_wp2_with (gi_at_builtin; go_must (refine wpListIn_append_sl _ rfl (.tmp 13) (.tmp 15) 74 74 rfl 9 i0 (.string ⟨#[]⟩) 1 16 Try.underlying74 hi0 hz0 hz1 hz2 rfl (.slice A pre.length c) pre.length (prsV pre) rfl HSL.out _ rfl 1 [.string x.1] HSR.out (by unfold maxLen; omega) (by omega) ?_); intro v3 w3 hs3 hg3 hv3; obtain ⟨A3, c3, rfl, hc3, hm3⟩ := hs3.shape; have hx := HV.out; have k1 : Blk w3 w.heap.size 74 #[.slice A pre.length c] := (hx.1.alloc _).grown hg3 (fun e => by have := hx.2.2.1 _ e.symm; have := hx.2.2.2.2.2.1; omega); have k2 : Blk w3 (w.heap.size + 1) 9 #[.string (lastP s pre)] := (hx.2.2.2.2.2.2.1.alloc _).grown hg3 (fun e => by have := hx.2.2.1 _ e.symm; have := hx.2.2.2.2.2.1; omega); have g0 := k1.cell 0; have p0 := k1.frozen 0; have g1 := k2.cell 0; have p1 := k2.frozen 0; have H3 := Lib.hid (And.intro hs3 (And.intro hg3 (And.intro hv3 (And.intro k1 k2)))); clear hs3 hg3 hv3 k1 k2 hx hc3 hm3)
    obtain ⟨h1, h2, h3, h4, h5, h6, h7, hV⟩ := HV.out
    obtain ⟨hs3, hg3, hv3, k1, k2⟩ := H3.out
    have hrow : ∀ i, (Value.slice A pre.length c).ownBlock = some i → (i < W0.heap.size ∨ X ≤ i) ∧ (i < w.heap.size + 2 ∨ w.heap.size + 2 + 1 ≤ i) := fun i hi => by have := h3 i hi; omega
    have hown := own_row' h3 (by simp; omega) hv3
    refine ⟨((((KeepX.refl _ _ _ _ V).alloc _).grown hg3 hrow).trans (.cell _ (by show (w.heap.size < _ ∨ _) ∧ (w.heap.size < _ ∨ _); omega))).trans (.cell _ (by show (w.heap.size + 1 < _ ∨ _) ∧ (w.heap.size + 1 < _ ∨ _); omega)), _, (k1.set_ 0 _).far (by show w.heap.size ≠ w.heap.size + 1; omega) _, ?_, hown, ?_, ?_, h6, ?_⟩
    · rw [List.length_append, prsV_snoc]
      exact (hs3.far (p := ⟨w.heap.size, 0, none⟩) (fun g hg => by have := hown g hg; show g ≠ w.heap.size; omega) _).far (p := ⟨w.heap.size + 1, 0, none⟩) (fun g hg => by have := hown g hg; show g ≠ w.heap.size + 1; omega) _
    · exact ((((h4.alloc (by omega) _).grown hg3 (by simp; omega) (fun g hg => by have := h3 g hg; omega))).setCell (p := ⟨w.heap.size, 0, none⟩) (Nat.le_refl _) _).setCell (p := ⟨w.heap.size + 1, 0, none⟩) (by show w.heap.size ≤ w.heap.size + 1; omega) _
    · have := hg3.size
      simp [World.setCell] at this ⊢
      omega
    · rw [lastP_snoc]
      exact (k2.far (p := ⟨w.heap.size, 0, none⟩) (by show w.heap.size + 1 ≠ w.heap.size; omega) _).set_ 0 _
  case hdone =>
    rintro D X V hD hD2 ⟨v, h1, h2, h3, h4, h5, h6, h7⟩ hK
    obtain ⟨A, c, rfl, hc1, hc2⟩ := h2.shape
    have c0 : V.cell? ⟨w.heap.size, 0, none⟩ = some (.slice A (pairsL s).length c) := h1.cell 0
    have c1 : V.cell? ⟨w.heap.size + 1, 0, none⟩ = some (.string (lastP s (pairsL s))) := h7.cell 0
    have H := Lib.hid (And.intro h2 (And.intro h3 (And.intro h4 (And.intro h6 hK))))
    clear h1 h2 h3 h4 h7 hc1 hc2 hK
    gi_wp2_with (fail)
    gi_quiet (fail)
    gi_wp2_with (fail)
    obtain ⟨h2, h3, h4, h6, hK⟩ := H.out
    have hK' : (V.drewN nq).heap[D]? = some (.deferred (some [])) := hK
    have hbV : Below w.heap.size w (V.drewN nq) := ⟨h4.os, h4.tape, h4.output, h4.size, h4.block⟩
    have HKB : Below w.heap.size w ((V.drewN nq).putObj D (.deferred none)) := hbV.trans (belowK_b (w := w) (Nat.le_refl _) (V.drewN nq) D _ _ (by omega) hK' rfl rfl)
    have hsl : Sl ((V.drewN nq).putObj D (.deferred none)) 1 (.slice A (pairsL s).length c) (pairsL s).length (prsV (pairsL s)) := (h2.drewN nq).keep (by simp) fun g hg => World.putObj_heap_other (by have := h3 g hg; omega)
    rw [lastP_pairs]
    have hpost : SplitPost s w (.returned (.tuple #[.slice A (pairsL s).length c, .string ⟨((mss s.data.toList).2).toArray⟩])) ((V.drewN nq).putObj D (.deferred none)) := by
      rw [pairs_length, prsV_pairs] at hsl
      rw [pairs_length] at h3 ⊢
      exact ⟨A, c, rfl, hsl, fun g hg => by have := h3 g hg; omega, HKB⟩
    exact ⟨by simp, .inl ⟨_, _, rfl, run_takeDeferred hK', _, results_tmp2 (t := 2) (u := 3) rfl _ _ _, hpost⟩⟩
  case hstop =>
    rintro D X c pre V hD _ _ h _
    exact h.elim
end Go.Proofs.Ytkdfbmbccopchaa
