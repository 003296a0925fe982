/- The walks of package mix's Mix and Bits. -/
import Derived.Test.YtenmhfhnhfhooaaDoorMix
namespace Go.Proofs.YtenmhfhnhfhooaaDoor
open Go.RowKit Go.Shelf
attribute [local go_sem] Oper.semAt_some

theorem clr32 (m : Nat) (hm : m < 256) : bits .andNot .u8 ((m ||| 32 : Nat) : Int) 32 = (((m ||| 32) &&& 223 : Nat) : Int) := by
  have : ∀ n : Fin 256, bits .andNot .u8 ((n.val ||| 32 : Nat) : Int) 32 = (((n.val ||| 32) &&& 223 : Nat) : Int) := by decide +kernel
  exact this ⟨m, hm⟩

theorem ne_addr {b b' o o' : Nat} (h : b ≠ b') : (⟨b, o, none⟩ : Addr) ≠ ⟨b', o', none⟩ := fun e => h (by injection e)
theorem bit_and (d j : Nat) (hd : d ≤ 18446744073709551615) : bits .and .u64 ((d : Int) / 2 ^ (j % 64)) 1 = if bitN d j = true then 1 else 0 := by
  have h1 : d / 2 ^ (j % 64) < 18446744073709551616 := Nat.lt_of_le_of_lt (Nat.div_le_self _ _) (by omega)
  have h2 := bits_and_u64_nat (d / 2 ^ (j % 64)) 1 h1 (by decide)
  have e : ((d / 2 ^ (j % 64) : Nat) : Int) = (d : Int) / 2 ^ (j % 64) := by rw [Int.natCast_ediv, Int.natCast_pow]; rfl
  rw [e] at h2
  have h3 : bits .and .u64 ((d : Int) / 2 ^ (j % 64)) 1 = ((d / 2 ^ (j % 64) &&& 1 : Nat) : Int) := h2
  rw [h3, Nat.and_one_is_mod]
  unfold bitN
  by_cases h : d / 2 ^ (j % 64) % 2 = 1
  · rw [h]; rfl
  · have : d / 2 ^ (j % 64) % 2 = 0 := by omega
    rw [this]; rfl
theorem mem_prefix {α : Type} {pre L : List α} {x : α} (h : pre ++ [x] <+: L) : x ∈ L := h.subset (by simp)

set_option maxRecDepth 100000 in
set_option maxHeartbeats 2000000 in
theorem Mix_in (n : Nat) (hn : 4 ≤ n) (s : ByteArray) (d : Nat) (hd : d ≤ 18446744073709551615) (hs : s.size ≤ maxLen) (hnm : isName s.data.toList = true) (w : World) :
    CallsIn Fence.wide n Tryd.prog 6 #[.string s, .int .u64 (d : Int)] w fun e w' => e = .returned (.tuple #[.string ⟨(mixL d s.data.toList).toArray⟩, .int .i64 0]) ∧ Below w.heap.size w w' := by
  have h1n : 1 ≤ n := by omega
  have hcv := fun w : World => run_bytes_of_string (P := Tryd.prog) w _ _ _ s Tryd.underlying9 Tryd.underlying39 Tryd.underlying5
  have hC := fun W => (callsIn_wide (n := n - 1)).2 (Check_any s hs W)
  rw [show chkN s.data.toList = 0 by unfold chkN; rw [if_pos hnm]] at hC
  have h255 : s.size ≤ 255 := by have := ((isName_iff _).1 hnm).1; simpa using this
  have HC := Lib.hid hC
  have hsz : s.data.toList.length = s.size := by simp
  have HS := Lib.hid hsz
  have HSM := Lib.hid hs
  clear hC hnm hsz hs
  refine callsIn_of_wp_marks Tryd.func6 rfl trivial ?_ rfl
  simp only [Tryd.ntmps6, List.size_toArray, List.length_cons, List.length_nil, Nat.reduceAdd, Nat.reduceSub, Array.replicate_succ, Array.replicate_zero, List.push_toArray, List.append_toArray, List.nil_append, List.cons_append]
  gi_wp2_with (first
    | (refine ⟨trivial, ?_⟩; gi_at_call 15; refine (HC.out _).mono ?_; rintro e w1 ⟨rfl, hb1⟩; have hs1 := hb1.size)
    | (refine ⟨trivial, ?_⟩; gi_at_call 16; refine (letters_in _ s _).mono ?_; rintro e w' ⟨rfl, rfl⟩))
  have hz1 : w.heap.size + 1 ≤ w1.heap.size := by simpa using hs1
  have hbd : Blk w1 w.heap.size 23 #[.int .u64 (d : Int)] := (Blk.new w _ _).below hb1 (by simp)
  have hbw1 : Below w.heap.size w w1 := ((Below.refl _ _).alloc (Nat.le_refl _) _).trans (hb1.mono (by simp))
  generalize grownCap w1 s.size 0 5 = cap
  obtain ⟨W0, hW0⟩ : ∃ W0, (((w1.alloc (.cells (bytesRow s cap) 5 ((bytesRow s cap).size, (bytesRow s cap).size + 1))).alloc (.cells #[.slice (some ⟨w1.heap.size, 0, none⟩) s.size cap] 39)).alloc (.cells #[.string s] 9)).drew = W0 := ⟨_, rfl⟩
  have hsz0 : W0.heap.size = w1.heap.size + 3 := by rw [← hW0]; simp
  have hb10 : Below w1.heap.size w1 W0 := by rw [← hW0]; exact ((((Below.refl _ _).alloc (Nat.le_refl _) _).alloc (by simp) _).alloc (by simp; omega) _).drew
  have hbW : Below w.heap.size w W0 := hbw1.trans (hb10.mono hbw1.size)
  have hbyt : ByR W0 w1.heap.size s.data.toList := by rw [← hW0]; exact ((byR_new w1 s cap).alloc _).alloc _
  have hbox : Blk W0 (w1.heap.size + 1) 39 #[.slice (some ⟨w1.heap.size, 0, none⟩) s.size cap] := by
    rw [← hW0]
    have := Blk.new (w1.alloc (.cells (bytesRow s cap) 5 ((bytesRow s cap).size, (bytesRow s cap).size + 1))) 39 #[.slice (some ⟨w1.heap.size, 0, none⟩) s.size cap]
    rw [World.size_alloc] at this
    exact (this.alloc _).drew
  have hstr : Blk W0 (w1.heap.size + 1 + 1) 9 #[.string s] := by
    rw [← hW0]
    have := Blk.new ((w1.alloc (.cells (bytesRow s cap) 5 ((bytesRow s cap).size, (bytesRow s cap).size + 1))).alloc (.cells #[.slice (some ⟨w1.heap.size, 0, none⟩) s.size cap] 39)) 9 #[.string s]
    rw [World.size_alloc, World.size_alloc] at this
    exact this.drew
  have hdr : Blk W0 w.heap.size 23 #[.int .u64 (d : Int)] := hbd.below hb10 (by omega)
  rw [hW0]
  clear hW0 hcv hb1 hs1 hbd hbw1 hb10
  apply rangeL rfl (by omega) (gf := 28) (lb := #[.pointer (some ⟨w1.heap.size + 1 + 1, 0, none⟩)]) rfl trivial (enters_of Tryd.func28 (by kernel_rfl) rfl)
    (letters_L (n - 1) (by omega) (w1.heap.size + 1 + 1) s HSM.out W0 (by omega) (hstr.cell 0)) (fun h k => k.trans h) (kp_b (by omega)) (Below.refl _ _) (fun _ => rfl)
    (fun (pre : List (Nat × Nat)) W => ((((ByR W w1.heap.size (outOf d s.data.toList pre) ∧ Blk W (w1.heap.size + 1) 39 #[.slice (some ⟨w1.heap.size, 0, none⟩) s.size cap]) ∧ Blk W (w1.heap.size + 1 + 1) 9 #[.string s]) ∧ Blk W w.heap.size 23 #[.int .u64 (d : Int)]) ∧ Below w.heap.size w W))
    (fun _ _ _ => False)
    (OwnFrom.and (OwnFrom.and (OwnFrom.and (OwnFrom.and ((byR_own _ (fun pre : List (Nat × Nat) => outOf d s.data.toList pre)).from _) ((blk_own _ _ (fun _ => #[.slice (some ⟨w1.heap.size, 0, none⟩) s.size cap])).from _)) ((blk_own _ _ (fun _ => #[.string s])).from _)) ((blk_own _ _ (fun _ => #[.int .u64 (d : Int)])).from _)) (ownFrom_below (Nat.le_refl _) (by omega)))
    (fun _ _ _ _ _ h => h.elim)
    ⟨⟨⟨⟨hbyt, hbox⟩, hstr⟩, hdr⟩, hbW⟩
  case hassign =>
    intro l x W K hK
    gi_wp2
    exact hK
  case hbody =>
    rintro l pre x W ⟨⟨⟨⟨hR, hO⟩, hst⟩, hD⟩, hbW⟩ hpre
    have hx : x.1 < s.size := by have := letL_lt (mem_prefix hpre); have := HS.out; omega
    have hxI : (x.1 : Int) < (s.size : Int) := by omega
    obtain ⟨c, hc⟩ : ∃ c, (outOf d s.data.toList pre)[x.1]? = some c := ⟨_, List.getElem?_eq_getElem (by rw [outOf_length]; have := HS.out; omega)⟩
    have c0 := hR.cell hc
    have f0 := hR.frozen (j := x.1) (by rw [outOf_length]; have := HS.out; omega)
    have o0 : W.cell? ⟨w1.heap.size + 1, 0, none⟩ = some (.slice (some ⟨w1.heap.size, 0, none⟩) s.size cap) := hO.cell 0
    have d0 : W.cell? ⟨w.heap.size, 0, none⟩ = some (.int .u64 (d : Int)) := hD.cell 0
    have l1 := hR.lt
    have l2 := hO.lt
    have l3 := hD.lt
    have hor := or32 c
    obtain ⟨x1, x2⟩ := x
    dsimp only at hx hxI c0 f0 hc
    have hbit := bit_and d x2 hd
    have hclr := clr32 c.toNat c.toNat_lt
    have hsp : outOf d s.data.toList (pre ++ [(x1, x2)]) = (outOf d s.data.toList pre).set x1 (mixB (bitN d x2) c) := by
      rw [outOf_snoc]; unfold stepM; rw [at0_eq hc]
    have HSP := Lib.hid hsp
    have hne1 : w1.heap.size ≠ w.heap.size := by omega
    have hne2 : w1.heap.size ≠ w1.heap.size + 1 := by omega
    rw [UInt8.toNat_or] at hor
    have hor2 : bits .or .u8 (c.toNat : Int) 32 = ((c.toNat ||| 32 : Nat) : Int) := hor
    have hR1 := hR.set_ x1 (c ||| 32)
    rw [UInt8.toNat_or] at hR1
    have hR1' : ByR (W.setCell ⟨w1.heap.size, x1, none⟩ (.int .u8 ((c.toNat ||| 32 : Nat) : Int))) w1.heap.size ((outOf d s.data.toList pre).set x1 (c ||| 32)) := hR1
    clear hor hR1
    have hbW1 := hbW.setCell (p := ⟨w1.heap.size, x1, none⟩) (show w.heap.size ≤ w1.heap.size by omega) (.int .u8 ((c.toNat ||| 32 : Nat) : Int))
    have HBW1 := Lib.hid hbW1
    have HR1 := Lib.hid hR1'
    cases hb : bitN d x2
    · rw [hb] at hbit
      simp only [Bool.false_eq_true, if_false] at hbit
      have HB := Lib.hid hb
      clear hpre hc hb hsp hbW1 hR1' hclr
      gi_wp2_with (fail)
      refine ⟨KeepsOthers.setCell _ _ _, World.cell?_setCell_other _ _ _ _ (ne_addr (by omega)), ⟨⟨⟨?_, hO.far (show w1.heap.size + 1 ≠ w1.heap.size by omega) _⟩, hst.far (show w1.heap.size + 1 + 1 ≠ w1.heap.size by omega) _⟩, hD.far (show w.heap.size ≠ w1.heap.size by omega) _⟩, HBW1.out⟩
      rw [HSP.out, HB.out]
      exact HR1.out
    · rw [hb] at hbit
      simp only [if_true] at hbit
      have HB := Lib.hid hb
      have hR2 := HR1.out.set_ x1 ((c ||| 32) &&& 223)
      rw [UInt8.toNat_and, UInt8.toNat_or, List.set_set] at hR2
      have hR2' : ByR ((W.setCell ⟨w1.heap.size, x1, none⟩ (.int .u8 ((c.toNat ||| 32 : Nat) : Int))).setCell ⟨w1.heap.size, x1, none⟩ (.int .u8 (((c.toNat ||| 32) &&& 223 : Nat) : Int))) w1.heap.size ((outOf d s.data.toList pre).set x1 ((c ||| 32) &&& 223)) := hR2
      have HR2 := Lib.hid hR2'
      have c1 : (W.setCell ⟨w1.heap.size, x1, none⟩ (.int .u8 ((c.toNat ||| 32 : Nat) : Int))).cell? ⟨w1.heap.size, x1, none⟩ = some (.int .u8 ((c.toNat ||| 32 : Nat) : Int)) := by
        have := HR1.out.cell (j := x1) (c := c ||| 32) (List.getElem?_set_self (List.getElem?_eq_some_iff.1 hc).1)
        rw [UInt8.toNat_or] at this
        exact this
      clear hpre hc hb hsp hbW1 hR1' hR2 hR2'
      gi_wp2_with (fail)
      refine ⟨(KeepsOthers.setCell _ _ _).trans (KeepsOthers.setCell _ _ _), (World.cell?_setCell_other _ _ _ _ (ne_addr (by omega))).trans (World.cell?_setCell_other _ _ _ _ (ne_addr (by omega))), ⟨⟨⟨?_, (hO.far (show w1.heap.size + 1 ≠ w1.heap.size by omega) _).far (show w1.heap.size + 1 ≠ w1.heap.size by omega) _⟩, (hst.far (show w1.heap.size + 1 + 1 ≠ w1.heap.size by omega) _).far (show w1.heap.size + 1 + 1 ≠ w1.heap.size by omega) _⟩, (hD.far (show w.heap.size ≠ w1.heap.size by omega) _).far (show w.heap.size ≠ w1.heap.size by omega) _⟩, HBW1.out.setCell (p := ⟨w1.heap.size, x1, none⟩) (show w.heap.size ≤ w1.heap.size by omega) _⟩
      rw [HSP.out, HB.out]
      exact HR2.out
  case hdone =>
    rintro D W hD ⟨⟨⟨⟨hR, hO⟩, hst⟩, hDr⟩, hbW⟩ hK
    have o0 : W.cell? ⟨w1.heap.size + 1, 0, none⟩ = some (.slice (some ⟨w1.heap.size, 0, none⟩) s.size cap) := hO.cell 0
    have hstr := hR.str (P := Tryd.prog) (src := 39) (dst := 9) cap Tryd.underlying39 Tryd.underlying5 Tryd.underlying9
    rw [outOf_length, HS.out] at hstr
    have HKB : Hid (Below w.heap.size w (W.putObj D (.deferred none))) := Lib.hid (hbW.trans (belowK_b (w := w) (Nat.le_refl _) W D _ _ (by omega) hK rfl rfl))
    clear hR hO hst hDr hbW
    gi_wp2_with (fail)
    exact ⟨by simp, .inl ⟨_, _, rfl, run_takeDeferred hK, _, results_tmp2 rfl _ _ _, rfl, HKB.out⟩⟩
  case hstop =>
    rintro D c pre W hD _ h _
    exact h.elim

set_option maxRecDepth 100000 in
set_option maxHeartbeats 1000000 in
theorem Mix_bad (n : Nat) (hn : 4 ≤ n) (s : ByteArray) (d : Nat) (hs : s.size ≤ maxLen) (hnm : isName s.data.toList = false) (w : World) :
    CallsIn Fence.wide n Tryd.prog 6 #[.string s, .int .u64 (d : Int)] w fun e w' => e = .returned (.tuple #[.string ⟨#[]⟩, .int .i64 2]) ∧ Below w.heap.size w w' := by
  have h1n : 1 ≤ n := by omega
  have hC := fun W => (callsIn_wide (n := n - 1)).2 (Check_any s hs W)
  rw [show chkN s.data.toList = 2 by unfold chkN; rw [if_neg (by rw [hnm]; simp)]] at hC
  have HC := Lib.hid hC
  clear hC hnm hs
  refine callsIn_of_wp_marks Tryd.func6 rfl trivial ?_ rfl
  simp only [Tryd.ntmps6, List.size_toArray, List.length_cons, List.length_nil, Nat.reduceAdd, Nat.reduceSub, Array.replicate_succ, Array.replicate_zero, List.push_toArray, List.append_toArray, List.nil_append, List.cons_append]
  gi_wp2_with (first
    | (refine ⟨trivial, ?_⟩; gi_at_call 15; refine (HC.out _).mono ?_; rintro e w1 ⟨rfl, hb1⟩; have HB := Lib.hid (((Below.refl w.heap.size w).alloc (Nat.le_refl _) (.cells #[.int .u64 (d : Int)] 23)).trans (hb1.mono (by simp)))))
  exact ⟨_, results_tmp2 rfl _ _ _, rfl, HB.out⟩

theorem and32 (c : UInt8) : bits .and .u8 (c.toNat : Int) 32 = ((c.toNat &&& 32 : Nat) : Int) := by
  have : ∀ n : Fin 256, bits .and .u8 ((n.val : Nat) : Int) 32 = ((n.val &&& 32 : Nat) : Int) := by decide +kernel
  exact this ⟨c.toNat, c.toNat_lt⟩
theorem great_nat (c : UInt8) : great c = (((c.toNat &&& 32 : Nat) : Int) == 0) := by
  unfold great
  rw [Bool.eq_iff_iff, beq_iff_eq, beq_iff_eq]
  constructor
  · intro h
    have := congrArg UInt8.toNat h
    rw [UInt8.toNat_and] at this
    have h2 : c.toNat &&& 32 = 0 := this
    rw [h2]; rfl
  · intro h
    apply UInt8.toNat_inj.1
    rw [UInt8.toNat_and]
    have h2 : c.toNat &&& 32 = 0 := by omega
    exact h2

end Go.Proofs.YtenmhfhnhfhooaaDoor
