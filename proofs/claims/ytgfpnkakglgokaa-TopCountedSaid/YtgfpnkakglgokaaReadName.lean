/- The walk of package pack's Reader's Name. Conditions: none. -/
import Derived.Test.YtgfpnkakglgokaaPackM
import Derived.Test.YtgfpnkakglgokaaReaderN
import Derived.Test.YtgfpnkakglgokaaRefFold
import Derived.Deep.CutBlock
import Derived.Deep.DeepCutAuto
import Derived.Deep.DeepMust
import Derived.Outline
namespace Go.Proofs.Ytgfpnkakglgokaa
open Go.RowKit Go.Lib

/-- What 'string' makes of a slice of bytes. -/
theorem Sl.str {w : World} {v : Value} {l : Bs} (h : Sl w 1 v l.length (l.map b8)) : (convert 120 9 v).run Try.prog w = .ok (.string ⟨l.toArray⟩) w := by
  rcases h.2 with ⟨rfl, h0⟩ | ⟨g, cap, rfl, _, _, _, _, hc⟩
  · have hl := List.eq_nil_of_length_eq_zero h0
    subst hl
    exact run_bytes_nil _ w 0 Try.underlying120 Try.underlying5 Try.underlying9
  · refine run_convert_bytes_back w _ _ _ ⟨g, 0, none⟩ cap l Try.underlying120 Try.underlying5 Try.underlying9 (fun j hj => ?_)
    have : (⟨g, 0, none⟩ : Addr).add j = ⟨g, j, none⟩ := by unfold Addr.add; split <;> simp_all
    rw [this]
    exact hc j _ (by simp [b8, hj])
def bhI : Option Nat → Int
  | none => -1
  | some q => (q : Int)
/-- How a name is read at a place. -/
def nread (l : Bs) (a : Nat) : Bs × Option Nat := nrun l (401 + a) [] a a none
def NamePost (rb : Nat) (s : ByteArray) (at0 : Nat) (w : World) (e : Ending) (w' : World) : Prop :=
  (isName (nread s.data.toList at0).1 = true ∧ ∃ q, (nread s.data.toList at0).2 = some q ∧ e = .returned (.string ⟨(nread s.data.toList at0).1.toArray⟩) ∧ Rd w' rb s q false ∧ But rb w w') ∨
  (isName (nread s.data.toList at0).1 = false ∧ e = .returned (.string ⟨#[]⟩) ∧ Rd w' rb s at0 true ∧ But rb w w')
theorem getD_byte (s : ByteArray) (a : Nat) (h : a < s.size) : (s.data.toList.getD a 0).toNat = (s[a]'h).toNat := by
  simp [List.getD, h]
  rfl
theorem take_byte (s : ByteArray) (a k : Nat) (_h : a + k ≤ s.size) : (s.extract a (a + k)).data.toList = (s.data.toList.drop a).take k := by
  simp

def NameCut (l : Bs) (at0 : Nat) (w : World) (v3 v6 : Value) (wx : World) : Prop :=
  ∃ (A : Option Addr) (c : Nat), v3 = .slice A (nread l at0).1.length c ∧ v6 = .int .i64 (bhI (nread l at0).2) ∧ Sl wx 1 (.slice A (nread l at0).1.length c) (nread l at0).1.length ((nread l at0).1.map b8) ∧ (∀ i, (Value.slice A (nread l at0).1.length c).ownBlock = some i → w.heap.size ≤ i) ∧ Below w.heap.size w wx
theorem name_cut {l : Bs} {at0 : Nat} {w wx : World} {A : Option Addr} {n c : Nat} {z : Int} {nm : Bs} {bh : Option Nat} (hR : nread l at0 = (nm, bh)) (hn : nm.length = n) (hz : z = bhI bh) (hS : Sl wx 1 (.slice A n c) n (nm.map b8)) (hO : ∀ i, (Value.slice A n c).ownBlock = some i → w.heap.size ≤ i) (hb : Below w.heap.size w wx) :
    NameCut l at0 w (.slice A n c) (.int .i64 z) wx := by
  subst hn hz
  unfold NameCut
  rw [hR]
  exact ⟨A, c, rfl, rfl, hS, hO, hb⟩
theorem lab_rel {l : Bs} {f : Nat} {ls : List Bs} {x : Bs} {b a k : Nat} {bh : Option Nat} {R : Bs × Option Nat} (hR : nrun l f (enc (ls ++ [x])) b (a + 1 + k) bh = R) (hel : (enc (ls ++ [x])).length = (enc ls).length + (1 + k))
    (hf : nleft (enc ls) b < f + 1) (hls : ∀ y ∈ ls, okL y) (hx : okL x) (h318 : (enc (ls ++ [x])).length ≤ 318) :
    f = f - 1 + 1 ∧ nrun l (f - 1 + 1) (enc (ls ++ [x])) b (a + 1 + k) bh = R ∧ nleft (enc (ls ++ [x])) b < f - 1 + 1 ∧ ∀ y ∈ ls ++ [x], okL y := by
  have h1 : nleft (enc (ls ++ [x])) b < f := by unfold nleft at hf ⊢; omega
  have e : f - 1 + 1 = f := by omega
  rw [e]
  exact ⟨rfl, hR, h1, fun y hy => by
    rcases List.mem_append.1 hy with hy | hy
    · exact hls y hy
    · rw [List.mem_singleton.1 hy]; exact hx⟩
theorem ptr_rel {l : Bs} {f : Nat} {ls : List Bs} {b t : Nat} {bh : Option Nat} {R : Bs × Option Nat} (hR : nrun l f (enc ls) t t bh = R) (hf : nleft (enc ls) b < f + 1) (hls : ∀ y ∈ ls, okL y) (ht : t < b) :
    f = f - 1 + 1 ∧ nrun l (f - 1 + 1) (enc ls) t t bh = R ∧ nleft (enc ls) t < f - 1 + 1 ∧ ∀ y ∈ ls, okL y := by
  have h1 : nleft (enc ls) t < f := by unfold nleft at hf ⊢; omega
  have e : f - 1 + 1 = f := by omega
  rw [e]
  exact ⟨rfl, hR, h1, hls⟩
theorem bh_cases {bh : Option Nat} {z : Int} (h : z = bhI bh) : (bh = none ∧ z = -1) ∨ ∃ q, bh = some q ∧ z = (q : Int) := by
  cases bh with
  | none => exact .inl ⟨rfl, h⟩
  | some q => exact .inr ⟨q, rfl, h⟩
theorem bits_or_i64_small (a b : Nat) (ha : a < 65536) (hb : b < 65536) : bits .or .i64 (a : Int) (b : Int) = ((a ||| b : Nat) : Int) := by
  have hx : a ||| b < 2 ^ 16 := Nat.or_lt_two_pow (by omega) (by omega)
  have h1 : (BitVec.ofInt 64 (a : Int)).toNat = a := by
    rw [BitVec.ofInt_natCast, BitVec.toNat_ofNat]; exact Nat.mod_eq_of_lt (by omega)
  have h2 : (BitVec.ofInt 64 (b : Int)).toNat = b := by
    rw [BitVec.ofInt_natCast, BitVec.toNat_ofNat]; exact Nat.mod_eq_of_lt (by omega)
  show IntKind.i64.wrap ((BitVec.ofInt 64 (a : Int) ||| BitVec.ofInt 64 (b : Int)).toNat : Int) = _
  rw [BitVec.toNat_or, h1, h2]
  exact IntWalk.i64_in _ (by omega)
theorem shl_or (c d : Nat) (hc : c ≤ 255) (hd : d ≤ 255) : bits .or .i64 ((c : Int) * 256) (d : Int) = ((c * 256 + d : Nat) : Int) := by
  have h1 : (c : Int) * 256 = ((c * 256 : Nat) : Int) := by omega
  rw [h1, bits_or_i64_small _ _ (by omega) (by omega)]
  have := Nat.two_pow_add_eq_or_of_lt (i := 8) (b := d) (by omega) c
  rw [show c * 256 = 2 ^ 8 * c by omega, ← this]
theorem nread_some (l : Bs) (a : Nat) (h : isName (nread l a).1 = true) : ∃ q, (nread l a).2 = some q := by
  rcases nrun_cases l (401 + a) [] a a none (fun x hx => by cases hx) with ⟨ls, q, _, e⟩ | e
  · exact ⟨q, congrArg Prod.snd e⟩
  · exact absurd h (by show ¬ isName (nrun l (401 + a) (enc []) a a none).1 = true; rw [e]; decide)
section
variable {l : Bs} {f : Nat} {nm : Bs} {b a k : Nat} {bh : Option Nat}
theorem nrun_stop (h : ¬ (a < l.length ∧ nm.length < 255)) : nrun l (f + 1) nm b a bh = (nm, bh) := by unfold nrun; rw [if_neg h]
theorem nrun_root (h : a < l.length ∧ nm.length < 255) (hk : (l.getD a 0).toNat = 0) : nrun l (f + 1) nm b a bh = (nm ++ [0], some (bh.getD (a + 1))) := by unfold nrun; rw [if_pos h, if_pos hk]
theorem nrun_lab (h : a < l.length ∧ nm.length < 255) (hk : (l.getD a 0).toNat = k) (h0 : k ≠ 0) (h1 : k ≤ 63 ∧ k < l.length - a) : nrun l (f + 1) nm b a bh = nrun l f (nm ++ (l.drop a).take (1 + k)) b (a + 1 + k) bh := by
  conv => lhs; unfold nrun
  rw [if_pos h, hk, if_neg h0, if_pos h1]
theorem nrun_ptr (h : a < l.length ∧ nm.length < 255) (hk : (l.getD a 0).toNat = k) (h1 : 192 ≤ k ∧ a + 1 < l.length) {d : Nat} (hd : (l.getD (a + 1) 0).toNat = d) (h2 : ¬ b ≤ k * 256 + d - 49152) :
    nrun l (f + 1) nm b a bh = nrun l f nm (k * 256 + d - 49152) (k * 256 + d - 49152) (some (bh.getD (a + 2))) := by
  conv => lhs; unfold nrun
  rw [if_pos h, hk, if_neg (by omega), if_neg (by omega), if_pos h1, hd, if_neg h2]
theorem nrun_bad (h : a < l.length ∧ nm.length < 255) (hk : (l.getD a 0).toNat = k) (h1 : 192 ≤ k ∧ a + 1 < l.length) {d : Nat} (hd : (l.getD (a + 1) 0).toNat = d) (h2 : b ≤ k * 256 + d - 49152) :
    nrun l (f + 1) nm b a bh = (nm, some (bh.getD (a + 2))) := by
  unfold nrun
  rw [if_pos h, hk, if_neg (by omega), if_neg (by omega), if_pos h1, hd, if_pos h2]
theorem nrun_else (h : a < l.length ∧ nm.length < 255) (hk : (l.getD a 0).toNat = k) (h0 : k ≠ 0) (h1 : ¬ (k ≤ 63 ∧ k < l.length - a)) (h2 : ¬ (192 ≤ k ∧ a + 1 < l.length)) : nrun l (f + 1) nm b a bh = (nm, bh) := by
  unfold nrun
  rw [if_pos h, hk, if_neg h0, if_neg h1, if_neg h2]
end

set_option maxRecDepth 100000 in
set_option maxHeartbeats 8000000 in
theorem rName_any {w : World} {rb : Nat} {s : ByteArray} {at0 : Nat} (h : Rd w rb s at0 false) (hs : s.size ≤ 140737488355328) (ha : at0 ≤ s.size) :
    Calls Try.prog 34 #[.pointer (some ⟨rb, 0, none⟩)] w (NamePost rb s at0 w) := by
  obtain ⟨i0, hi, hz0, hz1, hz2⟩ := info_parts info_u8'
  have c0 : w.cell? ⟨rb, 0, none⟩ = some (.string s) := Blk.cell h 0
  have c1 : w.cell? ⟨rb, 1, none⟩ = some (.int .i64 (at0 : Int)) := Blk.cell h 1
  have hsI : (s.size : Int) ≤ 140737488355328 := by omega
  have H := Lib.hid (rBad_any h)
  have HR := Lib.hid (And.intro h (And.intro hs ha))
  have hrb := Blk.lt h
  obtain ⟨B, hB⟩ : ∃ B, w.heap.size = B := ⟨_, rfl⟩
  obtain ⟨l, hl⟩ : ∃ l, s.data.toList = l := ⟨_, rfl⟩
  have HL := Lib.hid hl
  have HB := Lib.hid hB
  clear h hs ha hB hl
  go_enter Try.func34, Try.ntmps34
  go_wp2_with (fail)
  go_step3
  go_wp2_with (fail)
  with_reducible refine H.out.mono ?_
  rintro e w' ⟨rfl, rfl⟩
  go_wp2_with (fail)
  go_quiet (fail)
  go_wp2_with (fail)
  go_step3
  go_upto_block 0 with (fail)
  go_cut [3, 6] (fun v3 v6 wx => NameCut l at0 w v3 v6 wx)
  case first =>
    go_wp2_with (fail)
    go_loopg [3, 4, 5, 6] (401 + at0) (fun gg v3 v4 v5 v6 wr => ∃ (f : Nat) (ls : List Bs) (b a : Nat) (bh : Option Nat) (z : Int) (A : Option Addr) (c : Nat), v3 = .slice A (enc ls).length c ∧ v4 = .int .i64 (b : Int) ∧ v5 = .int .i64 (a : Int) ∧ v6 = .int .i64 z ∧ Aside (z = bhI bh ∧ a ≤ s.size ∧ b ≤ s.size ∧ (∀ q, bh = some q → q ≤ s.size) ∧ (enc ls).length ≤ 318) ∧ Aside (Sl wr 1 (.slice A (enc ls).length c) (enc ls).length ((enc ls).map b8)) ∧ Aside (∀ i, (Value.slice A (enc ls).length c).ownBlock = some i → w.heap.size ≤ i) ∧ Aside (Below w.heap.size w wr) ∧
      Aside (gg = f + 1 ∧ nrun l (f + 1) (enc ls) b a bh = nread l at0 ∧ nleft (enc ls) b < f + 1 ∧ ∀ x ∈ ls, okL x))
    case atStart => exact ⟨400 + at0, [], at0, at0, none, -1, none, 0, rfl, rfl, rfl, rfl, ⟨rfl, HR.out.2.2, HR.out.2.2, (fun q hq => by cases hq), by decide⟩, Sl.nil _ _, (by show ∀ i, _ → _; intro i hi; cases hi), below_drewN (Below.refl _ _) _, ⟨by omega, by show nrun l (400 + at0 + 1) [] at0 at0 none = nread l at0; unfold nread; rw [show 400 + at0 + 1 = 401 + at0 by omega], by show nleft [] at0 < 400 + at0 + 1; unfold nleft; simp <;> omega, (fun x hx => by cases hx)⟩⟩
    case round =>
      obtain ⟨f, ls, b, a, bh, z, A, c, rfl, rfl, rfl, rfl, h1, hS, hO, hb, hN⟩ := hrel
      have e0 : wr.cell? ⟨rb, 0, none⟩ = some (.string s) := (hb.out.cell (p := ⟨rb, 0, none⟩) hrb).trans c0
      by_cases ha : a < s.size
      · have haI : (a : Int) < (s.size : Int) := by omega
        by_cases hn : (enc ls).length < 255
        · have hnI : ((enc ls).length : Int) < 255 := by omega
          obtain ⟨k, hk⟩ : ∃ k : Nat, (s[a]'ha).toNat = k := ⟨_, rfl⟩
          have hgD : (l.getD a 0).toNat = k := by rw [← HL.out, getD_byte s a ha, hk]
          have hk255 : k ≤ 255 := by rw [← hk]; have := (s[a]'ha).toNat_lt; omega
          by_cases hk0 : k = 0
          · have hkb : ((k : Int) == 0) = true := by simp [hk0]
            have hR := hN.out.2.1
            rw [nrun_root ⟨by rw [← HL.out]; simpa using ha, hn⟩ (by rw [hgD, hk0])] at hR
            have HRR := Lib.hid hR.symm
            have H1 := Lib.hid h1.out
            have HSL := Lib.hid (hS.out.alloc (.cells #[.int .u8 0] 5))
            have HSR := Lib.hid (src_new (P := Try.prog) Try.underlying120 wr 5 (.int .u8 0) rfl)
            have hHN := Lib.hid (And.intro ha (And.intro hn (And.intro hgD hk0)))
            clear hgD hR h1 hS hn
            rcases bh with _ | q
            · obtain rfl : z = -1 := H1.out.1
              go_wp2_with (at_builtin; go_must (refine wpList_append_sl _ rfl (.tmp 41) (.tmp 42) 120 120 rfl 5 i0 (.int .u8 0) 1 1 Try.underlying120 hi hz0 hz1 hz2 rfl (.slice A (enc ls).length c) (enc ls).length _ rfl HSL.out _ rfl 1 _ HSR.out (by have := H1.out.2.2.2.2; unfold maxLen; omega) (by have := H1.out.2.2.2.2; omega) ?_); intro v3 w3 hs3 hg3 hv3; obtain ⟨A3, c3, rfl, _, _⟩ := hs3.shape; have H3 := Lib.hid (And.intro hs3 (And.intro hg3 hv3)); clear hs3 hg3 hv3)
              go_meet
              case rel => exact name_cut HRR.out (by simp) rfl (by have := H3.out.1; rw [List.map_append]; exact this) (own_from hO.out (Nat.le_trans hb.out.size (by simp)) H3.out.2.2) ((hb.out.alloc hb.out.size _).grown H3.out.2.1 (by have := hb.out.size; simp; omega) (fun i hi => hO.out i hi))
            · obtain rfl : z = (q : Int) := H1.out.1
              go_wp2_with (at_builtin; go_must (refine wpList_append_sl _ rfl (.tmp 41) (.tmp 42) 120 120 rfl 5 i0 (.int .u8 0) 1 1 Try.underlying120 hi hz0 hz1 hz2 rfl (.slice A (enc ls).length c) (enc ls).length _ rfl HSL.out _ rfl 1 _ HSR.out (by have := H1.out.2.2.2.2; unfold maxLen; omega) (by have := H1.out.2.2.2.2; omega) ?_); intro v3 w3 hs3 hg3 hv3; obtain ⟨A3, c3, rfl, _, _⟩ := hs3.shape; have H3 := Lib.hid (And.intro hs3 (And.intro hg3 hv3)); clear hs3 hg3 hv3)
              go_meet
              case rel => exact name_cut HRR.out (by simp) rfl (by have := H3.out.1; rw [List.map_append]; exact this) (own_from hO.out (Nat.le_trans hb.out.size (by simp)) H3.out.2.2) ((hb.out.alloc hb.out.size _).grown H3.out.2.1 (by have := hb.out.size; simp; omega) (fun i hi => hO.out i hi))
          · have hkb : ((k : Int) == 0) = false := by simp [hk0]
            by_cases hl1 : k ≤ 63 ∧ k < s.size - a
            · have hk63 : (k : Int) ≤ 63 := by omega
              have hkl : (k : Int) < (s.size : Int) - (a : Int) := by omega
              have hle : a + 1 + k ≤ s.size := by omega
              have hsl := slice_nat (P := Try.prog) Try.underlying9 s a (a + 1 + k) (a : Int) ((a : Int) + 1 + (k : Int)) rfl (by omega) (by omega) hle
              obtain ⟨S, hSe⟩ : ∃ S, s.extract a (a + 1 + k) = S := ⟨_, rfl⟩
              rw [hSe] at hsl
              have hlen : a < l.length ∧ (enc ls).length < 255 := ⟨by rw [← HL.out]; simpa using ha, hn⟩
              have hll : l.length = s.size := by rw [← HL.out]; simp
              have hSl : S.data.toList = (l.drop a).take (1 + k) := by rw [← hSe, ← HL.out, Nat.add_assoc, take_byte s a (1 + k) (by omega)]
              have hSz : S.size = 1 + k := by rw [← hSe]; simp; omega
              obtain ⟨x, hx, hxl, hxe⟩ := lab_at hlen.1 (by rw [hgD]; exact hk0) (by rw [hgD]; exact hl1.1) (by rw [hgD, hll]; exact hl1.2)
              rw [hgD] at hxl hxe
              have hR := hN.out.2.1
              rw [nrun_lab hlen hgD hk0 (by rw [hll]; exact hl1), hxe, ← enc_snoc] at hR
              have hel : (enc (ls ++ [x])).length = (enc ls).length + (1 + k) := by rw [enc_snoc, List.length_append, List.length_cons, hxl]; omega
              have hbc : (enc ls).map b8 ++ byteCells S = (enc (ls ++ [x])).map b8 := by rw [enc_snoc, List.map_append, byteCells_b8, hSl, hxe]
              have hsr : ∀ W : World, Src Try.prog 1 9 (.string S) (1 + k) (byteCells S) W := fun W => by rw [← hSz]; exact Src.ofString W Try.underlying9 S
              have HSR := Lib.hid (hsr wr)
              have HF := Lib.hid (And.intro hR (And.intro hel (And.intro hbc (And.intro hx hle))))
              have H1 := Lib.hid h1.out
              have HN2 := Lib.hid (And.intro hN.out.2.2 (And.intro hn hk63))
              clear hlen hll hSl hSz hxl hxe hR hel hbc hsr hSe hle hgD h1 hn hl1
              go_wp2_with (at_builtin; go_must (refine wpList_append_sl _ rfl (.tmp 62) (.tmp 72) 120 9 rfl 5 i0 (.int .u8 0) 1 1 Try.underlying120 hi hz0 hz1 hz2 rfl (.slice A (enc ls).length c) (enc ls).length _ rfl hS.out _ rfl (1 + k) _ HSR.out (by have := H1.out.2.2.2.2; unfold maxLen; omega) (by have := H1.out.2.2.2.2; omega) ?_); intro v3 w3 hs3 hg3 hv3; obtain ⟨A3, c3, rfl, _, _⟩ := hs3.shape; have H3 := Lib.hid (And.intro hs3 (And.intro hg3 hv3)); clear hs3 hg3 hv3)
              go_roundg f
              case measure => have := hN.out.1; omega
              case rel => exact ⟨f - 1, ls ++ [x], b, a + 1 + k, bh, z, A3, c3, by rw [HF.out.2.1], rfl, by go_num, rfl, ⟨H1.out.1, HF.out.2.2.2.2, H1.out.2.2.1, H1.out.2.2.2.1, by rw [HF.out.2.1]; have := HN2.out.2.1; have := HN2.out.2.2; omega⟩, (by
                have h3 := H3.out.1
                rw [HF.out.2.2.1] at h3
                show Sl _ _ _ _ _
                rw [HF.out.2.1]; exact h3), (by intro i hi; rw [HF.out.2.1] at hi; exact own_from hO.out hb.out.size H3.out.2.2 i hi), hb.out.grown H3.out.2.1 hb.out.size (fun i hi => hO.out i hi), lab_rel HF.out.1 HF.out.2.1 HN2.out.1.1 HN2.out.1.2 HF.out.2.2.2.1 (by rw [HF.out.2.1]; have := HN2.out.2.1; have := HN2.out.2.2; omega)⟩
            · by_cases hp : 192 ≤ k ∧ a + 1 < s.size
              · have hl1' : ¬ (k : Int) ≤ 63 := by omega
                have hk192 : (192 : Int) ≤ (k : Int) := by omega
                have haI1 : (a : Int) + 1 < (s.size : Int) := by omega
                obtain ⟨d, hd⟩ : ∃ d : Nat, (s[a + 1]'hp.2).toNat = d := ⟨_, rfl⟩
                have hd255 : d ≤ 255 := by rw [← hd]; have := (s[a + 1]'hp.2).toNat_lt; omega
                have hso := shl_or k d hk255 hd255
                go_upto_region 15 with (fail)
                obtain ⟨t, ht⟩ : ∃ t, k * 256 + d - 49152 = t := ⟨_, rfl⟩
                have hto : (k : Int) * 256 + (d : Int) - 49152 = (t : Int) := by omega
                have hdD : (l.getD (a + 1) 0).toNat = d := by rw [← HL.out, getD_byte s (a + 1) hp.2, hd]
                have hll : l.length = s.size := by rw [← HL.out]; simp
                have H1 := Lib.hid h1.out
                have hbs : b ≤ s.size := H1.out.2.2.1
                have HNN := Lib.hid hN.out.2.2
                have hR := hN.out.2.1
                by_cases htb : b ≤ t
                · have htI : (b : Int) ≤ (t : Int) := by omega
                  rw [nrun_bad ⟨by rw [hll]; exact ha, hn⟩ hgD ⟨hp.1, by rw [hll]; exact hp.2⟩ hdD (by rw [ht]; exact htb)] at hR
                  have HRR := Lib.hid hR.symm
                  have HT := Lib.hid ht
                  clear ht hdD hgD hll hR h1
                  have hzz := bh_cases H1.out.1
                  rcases hzz with ⟨rfl, rfl⟩ | ⟨q, rfl, rfl⟩
                  · skip
                    go_wp2_with (fail)
                    go_meet
                    case rel => exact name_cut HRR.out rfl (by simp [bhI]) hS.out hO.out hb.out
                  · have hq0 : ¬ (q : Int) < 0 := Int.not_lt.2 (Int.natCast_nonneg q)
                    go_upto_region 16 with (fail)
                    clear hso hto
                    go_wp2_with (fail)
                    go_meet
                    case rel => exact name_cut HRR.out rfl (by simp [bhI]) hS.out hO.out hb.out
                · have htI : ¬ (b : Int) ≤ (t : Int) := by omega
                  rw [nrun_ptr ⟨by rw [hll]; exact ha, hn⟩ hgD ⟨hp.1, by rw [hll]; exact hp.2⟩ hdD (by rw [ht]; exact htb), ht] at hR
                  have HRR := Lib.hid hR
                  have HT := Lib.hid ht
                  clear ht hdD hgD hll hR h1
                  have hzz := bh_cases H1.out.1
                  rcases hzz with ⟨rfl, rfl⟩ | ⟨q, rfl, rfl⟩
                  · skip
                    go_wp2_with (fail)
                    go_roundg f
                    case measure => have := hN.out.1; omega
                    case rel => exact ⟨f - 1, ls, t, t, some (a + 2), (a : Int) + 2, A, c, rfl, rfl, rfl, rfl, ⟨by simp [bhI], by omega, by omega, (fun q hq => by injection hq; omega), H1.out.2.2.2.2⟩, hS.out, hO.out, hb.out, ptr_rel HRR.out HNN.out.1 HNN.out.2 (by omega)⟩
                  · have hq0 : ¬ (q : Int) < 0 := Int.not_lt.2 (Int.natCast_nonneg q)
                    go_upto_region 16 with (fail)
                    clear hso hto
                    go_wp2_with (fail)
                    go_roundg f
                    case measure => have := hN.out.1; omega
                    case rel => exact ⟨f - 1, ls, t, t, some q, (q : Int), A, c, rfl, rfl, rfl, rfl, ⟨by simp [bhI], by omega, by omega, (fun q' hq => by injection hq with hq; subst hq; exact H1.out.2.2.2.1 q rfl), H1.out.2.2.2.2⟩, hS.out, hO.out, hb.out, ptr_rel HRR.out HNN.out.1 HNN.out.2 (by omega)⟩
              · have hll : l.length = s.size := by rw [← HL.out]; simp
                have hR := hN.out.2.1
                rw [nrun_else ⟨by rw [hll]; exact ha, hn⟩ hgD hk0 (by rw [hll]; exact hl1) (by rw [hll]; exact hp)] at hR
                have HRR := Lib.hid hR.symm
                have H1 := Lib.hid h1.out
                clear hR hll hgD h1
                by_cases hk63 : k ≤ 63
                · have hkI1 : (k : Int) ≤ 63 := by omega
                  have hkI2 : ¬ (k : Int) < (s.size : Int) - (a : Int) := by omega
                  have hkI3 : ¬ (192 : Int) ≤ (k : Int) := by omega
                  clear hl1 hp
                  go_wp2_with (fail)
                  go_meet
                  case rel => exact name_cut HRR.out rfl H1.out.1 hS.out hO.out hb.out
                · by_cases hk192 : 192 ≤ k
                  · have hkI1 : ¬ (k : Int) ≤ 63 := by omega
                    have hkI2 : (192 : Int) ≤ (k : Int) := by omega
                    have hkI3 : ¬ (a : Int) + 1 < (s.size : Int) := by omega
                    clear hl1 hp
                    go_wp2_with (fail)
                    go_meet
                    case rel => exact name_cut HRR.out rfl H1.out.1 hS.out hO.out hb.out
                  · have hkI1 : ¬ (k : Int) ≤ 63 := by omega
                    have hkI2 : ¬ (192 : Int) ≤ (k : Int) := by omega
                    clear hl1 hp
                    go_wp2_with (fail)
                    go_meet
                    case rel => exact name_cut HRR.out rfl H1.out.1 hS.out hO.out hb.out
        · have hnI : ¬ ((enc ls).length : Int) < 255 := by omega
          have hR := hN.out.2.1
          rw [nrun_stop (fun e => hn e.2)] at hR
          have HRR := Lib.hid hR.symm
          have H1 := Lib.hid h1.out
          clear hR hn ha h1
          go_wp2_with (fail)
          go_meet
          case rel => exact name_cut HRR.out rfl H1.out.1 hS.out hO.out hb.out
      · have haI : ¬ (a : Int) < (s.size : Int) := by omega
        have hR := hN.out.2.1
        rw [nrun_stop (fun e => ha (by have := e.1; rw [← HL.out] at this; simpa using this))] at hR
        have HRR := Lib.hid hR.symm
        have H1 := Lib.hid h1.out
        clear hR ha h1
        go_wp2_with (fail)
        go_meet
        case rel => exact name_cut HRR.out rfl H1.out.1 hS.out hO.out hb.out
  case rest =>
    obtain ⟨A, c, rfl, rfl, hS, hO, hb⟩ := hcut
    obtain ⟨w2, rfl⟩ : ∃ w2, w2 = wc := ⟨_, rfl⟩
    have hR2 : Rd w2 rb s at0 false := Blk.below HR.out.1 hb hrb
    have hbs := hb.size
    have HCK := Lib.hid (fun W => Check_any ⟨(nread l at0).1.toArray⟩ (by obtain ⟨A', c', hv, h1, h2⟩ := hS.shape; show ((nread l at0).1.toArray).size ≤ _; simp; omega) W)
    have hcv := hS.str
    have HH := Lib.hid (And.intro hS (And.intro hO (And.intro hb hR2)))
    have HNS := Lib.hid (nread_some l at0)
    have hg : (∀ e w', ((isName (nread l at0).1 = true ∧ ∃ q, (nread l at0).2 = some q ∧ e = .returned (.string ⟨(nread l at0).1.toArray⟩) ∧ Rd w' rb s q false ∧ But rb w w') ∨ (isName (nread l at0).1 = false ∧ e = .returned (.string ⟨#[]⟩) ∧ Rd w' rb s at0 true ∧ But rb w w')) → NamePost rb s at0 w e w') := by intro e w' h; unfold NamePost; rw [HL.out]; exact h
    have HG := Lib.hid hg
    clear hg
    generalize nread l at0 = R at hcv HCK HH HNS HG ⊢
    obtain ⟨nm, bh⟩ := R
    dsimp only at hcv HCK HH HNS HG ⊢
    clear hS hO hb hR2
    cases hn : isName nm with
    | true =>
      obtain ⟨q, rfl⟩ := HNS.out hn
      have hck : chkN nm = 0 := by unfold chkN; rw [if_pos hn]
      have HN := Lib.hid (And.intro hn hck)
      clear hn hck
      go_wp2_with (fail)
      with_reducible refine (HCK.out _).mono ?_
      rintro e w3 ⟨rfl, hb3⟩
      rw [HN.out.2]
      have hR3 : Rd w3 rb s at0 false := Blk.below HH.out.2.2.2 hb3 (by omega)
      have d1 := Blk.cell hR3 1
      have f1 := Blk.frozen hR3 1
      have hcv3 := Sl.str ((HH.out.1.below hb3 fun g hg => HH.out.1.lt g hg).far (p := ⟨rb, 1, none⟩) (fun g hg => by have := HH.out.2.1 g hg; show g ≠ rb; omega) (.int .i64 (bhI (some q))))
      have H3 := Lib.hid (And.intro hR3 (HH.out.2.2.1.trans (hb3.mono HH.out.2.2.1.size)))
      clear hR3 hb3 hcv HCK c0 c1
      go_wp2_with (fail)
      try rw [Exit.noGoto_ret]
      go_ret
      exact HG.out _ _ (.inl ⟨HN.out.1, q, rfl, rfl, Blk.set_ H3.out.1 1 _, (show KeepK _ _ _ from (But.of_below (b := rb) H3.out.2).setCell (p := ⟨rb, 1, none⟩) (fun i hi => hi.2) _)⟩)
    | false =>
      have hck : chkN nm = 2 := by unfold chkN; rw [if_neg (by rw [hn]; decide)]
      have HN := Lib.hid (And.intro hn hck)
      clear hn hck
      go_wp2_with (fail)
      with_reducible refine (HCK.out _).mono ?_
      rintro e w3 ⟨rfl, hb3⟩
      rw [HN.out.2]
      have hR3 : Rd w3 rb s at0 false := Blk.below HH.out.2.2.2 hb3 (by omega)
      have HF := Lib.hid (rfail_any hR3)
      have H3 := Lib.hid (HH.out.2.2.1.trans (hb3.mono HH.out.2.2.1.size))
      clear hR3 hb3 hcv HCK c0 c1
      go_wp2_with (fail)
      with_reducible refine HF.out.mono ?_
      rintro e w4 ⟨rfl, hR4, hbt⟩
      have H4 := Lib.hid (And.intro hR4 ((But.of_below H3.out).trans hbt))
      clear hR4 hbt
      go_wp2_with (fail)
      try rw [Exit.noGoto_ret]
      go_ret
      exact HG.out _ _ (.inr ⟨HN.out.1, rfl, H4.out.1, H4.out.2⟩)
end Go.Proofs.Ytgfpnkakglgokaa
