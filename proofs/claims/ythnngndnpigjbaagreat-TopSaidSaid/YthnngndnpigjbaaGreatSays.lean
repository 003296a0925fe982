/- Messages that are small: plain. Conditions: none. The walk of hardtacklaw06.Small. Conditions: none. The walk of sets.Says at two right sets of one name, type and data. Conditions: none. The walk of hardtacklaw13.Small. Conditions: none. -/
import Derived.Test.YthnngndnpigjbaaGreatRR
import Derived.Shelf.Abstract
import Derived.Test.YthnngndnpigjbaaGreatRet
import Derived.Deep.LoopGhost
import Derived.Deep.Light
import Derived.Deep.QuietTactic
import Derived.BigQuiet
import Derived.Outline
import Derived.OwnWalk
import Derived.Test.YthnngndnpigjbaaGreatSetsM
import Derived.Test.YthnngndnpigjbaaGreatQLow
import Derived.Deep.DeepCutAuto
import Derived.Test.YthnngndnpigjbaaGreatRes
namespace Go.Proofs.YthnngndnpigjbaaGreat
open Go.RowKit Go.Lib

def RRec.small (r : RRec) : Prop := r.n.size ≤ 1000 ∧ r.d.size ≤ 5000
structure MRec.Small (m : MRec) : Prop where
  lq : m.q.length ≤ 20
  ls : m.s.length ≤ 20
  lh : m.h.length ≤ 20
  le : m.e.length ≤ 20
  sq : ∀ e ∈ m.q, e.n.size ≤ 1000
  ss : ∀ e ∈ m.s, e.small
  sh : ∀ e ∈ m.h, e.small
  se : ∀ e ∈ m.e, e.small
theorem take_at {α : Type} {xs : List α} {i : Nat} {x : α} (hi : xs[i]? = some x) : xs.take (i + 1) = xs.take i ++ [x] := by
  obtain ⟨h, rfl⟩ := List.getElem?_eq_some_iff.1 hi
  rw [List.take_succ_eq_append_getElem h]
end Go.Proofs.YthnngndnpigjbaaGreat

namespace Go.Proofs.YthnngndnpigjbaaGreat
open Go.RowKit Go.Shelf Go.Lib

theorem allr_step {xs : List RRec} {j : Nat} {r : RRec} (h : ∀ e ∈ xs.take j, e.small) (hr : xs[j]? = some r) (hs : r.small) : ∀ e ∈ xs.take (j + 1), e.small := by
  rw [take_at hr]
  intro e he
  rcases List.mem_append.1 he with he | he
  · exact h e he
  · rw [List.mem_singleton.1 he]; exact hs
theorem allq_step {xs : List QRec} {j : Nat} {r : QRec} (h : ∀ e ∈ xs.take j, e.n.size ≤ 1000) (hr : xs[j]? = some r) (hs : r.n.size ≤ 1000) : ∀ e ∈ xs.take (j + 1), e.n.size ≤ 1000 := by
  rw [take_at hr]
  intro e he
  rcases List.mem_append.1 he with he | he
  · exact h e he
  · rw [List.mem_singleton.1 he]; exact hs
def SmallPost (m : MRec) (w : World) (e : Ending) (w' : World) : Prop := (e = .returned (.int .i64 0) ∨ e = .returned (.int .i64 1) ∧ m.Small) ∧ Below w.heap.size w w'

end Go.Proofs.YthnngndnpigjbaaGreat

namespace Go.Proofs.YthnngndnpigjbaaGreat
open Go.RowKit Go.Lib

def SetB (w : World) (b : Nat) (n : ByteArray) (t l : Int) (A : Option Addr) (k c : Nat) : Prop := Blk w b 36 #[.string n, .int .u16 t, .int .u32 l, .slice A k c]
set_option maxRecDepth 100000 in
set_option maxHeartbeats 4000000 in
theorem says1_any (x : ByteArray) (hx : x.size ≤ 1000000) {n : ByteArray} {t l l' : Int} {A A' : Option Addr} {k k' c c' : Nat} {b1 b2 : Nat} (w : World) (h1 : SetB w b1 n t l A k c) (h2 : SetB w b2 n t l' A' k' c') :
    Calls Tryz.prog 25 #[.string x, .string x, .pointer (some ⟨b1, 0, none⟩), .pointer (some ⟨b2, 0, none⟩)] w fun e w' => e = .returned (.bool true) ∧ Below w.heap.size w w' := by
  obtain ⟨F, hF⟩ : ∃ F : ByteArray, (⟨(foldD t x.data.toList).toArray⟩ : ByteArray) = F := ⟨_, rfl⟩
  have HF := Lib.hid (fun W => foldJ_any t x hx W)
  rw [hF] at HF
  have c1 : ∀ p : BelowOf w, p.X.cell? ⟨b1, 1, none⟩ = some (.int .u16 t) := fun p => (Blk.low h1 p).cell 1
  have c2 : ∀ p : BelowOf w, p.X.cell? ⟨b2, 1, none⟩ = some (.int .u16 t) := fun p => (Blk.low h2 p).cell 1
  have hee : (F.toList == F.toList) = true := by simp
  clear h1 h2 hF hx
  go_enter Tryz.func25, Tryz.ntmps25
  go_wp2_with (fail)
  refine wp_region_low (by kernel_rfl) (by kernel_rfl) ?_
  repeat (refine low_step (fun K hK => ?_); go_simp; first | (refine hK _ ?_; clear hK K) | (apply Exists.intro; refine ⟨fun _ => ?_, hK _ ?_⟩; (first | (go_at_call 26; exact calls_low (HF.out _))); clear hK K))
  refine low_nil ?_
  rintro ⟨W5, hb5⟩
  dsimp only
  clear c1 c2
  go_wp2_with (fail)
  go_ret
  exact ⟨ret_b (by simp), hb5⟩
set_option maxRecDepth 100000 in
set_option maxHeartbeats 4000000 in
theorem equalF_any {xs : List ByteArray} {A A' : Option Addr} {c c' : Nat} {n : ByteArray} {t l l' : Int} {b1 b2 : Nat} (w : World) (hT : STab w A xs) (hT' : STab w A' xs) (hx : ∀ x ∈ xs, x.size ≤ 1000000) (hl : xs.length ≤ 1000)
    (h1 : SetB w b1 n t l A xs.length c) (h2 : SetB w b2 n t l' A' xs.length c') :
    Calls Tryz.prog 24 #[.slice A xs.length c, .slice A' xs.length c', .func (.func 25) #[] #[.pointer (some ⟨b1, 0, none⟩), .pointer (some ⟨b2, 0, none⟩)]] w fun e w' => e = .returned (.bool true) ∧ Below w.heap.size w w' := by
  have HT := Lib.hid (And.intro hT (And.intro hT' (And.intro hx (And.intro h1 h2))))
  have hlI : (xs.length : Int) ≤ 1000 := by omega
  clear hT hT' hx h1 h2
  go_enter Tryz.func24, Tryz.ntmps24
  go_wp2_with (fail)
  go_loopg [7, 8, 9, 17] xs.length (fun gg _ _ _ v17 wr => ∃ k : Nat, v17 = .int .i64 (k : Int) ∧ Aside (gg + k = xs.length) ∧ Aside (Below w.heap.size w wr))
  case atStart => exact ⟨0, rfl, (by show _ = _; omega), Below.refl _ _⟩
  case round =>
    obtain ⟨k, rfl, hg, hB⟩ := hrel
    by_cases hlt : k < xs.length
    · have hltI : (k : Int) < (xs.length : Int) := by omega
      obtain ⟨x, hx⟩ : ∃ x, xs[k]? = some x := ⟨_, List.getElem?_eq_getElem hlt⟩
      obtain ⟨b, off, rfl, hbl, hcl⟩ := HT.out.1.below hB.out (by simp; omega)
      obtain ⟨b', off', rfl, hbl', hcl'⟩ := HT.out.2.1.below hB.out (by simp; omega)
      have c0 := hcl k _ (by rw [List.getElem?_map, hx]; rfl)
      have d0 := hcl' k _ (by rw [List.getElem?_map, hx]; rfl)
      have hcall := says1_any x (HT.out.2.2.1 x (List.mem_of_getElem? hx)) wr (Blk.below HT.out.2.2.2.1 hB.out (Blk.lt HT.out.2.2.2.1)) (Blk.below HT.out.2.2.2.2 hB.out (Blk.lt HT.out.2.2.2.2))
      have HC := Lib.hid hcall
      have HLT := Lib.hid hlt
      clear hcall hx hlt hcl hcl'
      go_wp2_with (fail)
      with_reducible refine HC.out.mono ?_
      rintro e w2 ⟨rfl, hb2⟩
      have HB2 := Lib.hid (hB.out.trans (hb2.mono hB.out.size))
      clear hb2
      go_wp2_with (fail)
      go_roundg (xs.length - (k + 1))
      case measure => have := hg.out; have := HLT.out; omega
      case rel => exact ⟨k + 1, by go_num, (by have := hg.out; have := HLT.out; show _ = _; omega), HB2.out⟩
    · have hltI : ¬ (k : Int) < (xs.length : Int) := by omega
      clear hlt
      go_wp2_with (fail)
      go_ret
      exact ⟨rfl, hB.out⟩
set_option maxRecDepth 100000 in
set_option maxHeartbeats 4000000 in
theorem says_any (n : ByteArray) (t l l' : Int) (A A' : Option Addr) (xs : List ByteArray) (c c' : Nat) (w : World) (hn : n.size ≤ maxLen) (hT : STab w A xs) (hT' : STab w A' xs) (hx : ∀ x ∈ xs, x.size ≤ 1000000) (hok : setOk n t l xs = true) (hok' : setOk n t l' xs = true) :
    Calls Tryz.prog 10 #[setV n t l A xs c, setV n t l' A' xs c'] w fun e w' => e = .returned (.bool true) ∧ Below w.heap.size w w' := by
  have h64 : xs.length ≤ 64 ∧ isName n.data.toList = true := by
    unfold setOk at hok
    simp only [Bool.and_eq_true, decide_eq_true_eq] at hok
    exact ⟨hok.2.2.2.1, hok.1⟩
  obtain ⟨W1, hW1⟩ : ∃ W1, (w.alloc (.cells #[.string n, .int .u16 t, .int .u32 l, .slice A xs.length c] 36)).alloc (.cells #[.string n, .int .u16 t, .int .u32 l', .slice A' xs.length c'] 36) = W1 := ⟨_, rfl⟩
  have hb1 : Below w.heap.size w W1 := by rw [← hW1]; exact ((Below.refl _ _).alloc (Nat.le_refl _) _).alloc (by simp) _
  have k1 : SetB W1 w.heap.size n t l A xs.length c := by rw [← hW1]; exact (Blk.new _ _ _).alloc _
  have k2 : SetB W1 (w.heap.size + 1) n t l' A' xs.length c' := by
    rw [← hW1]
    have := Blk.new (w.alloc (.cells #[.string n, .int .u16 t, .int .u32 l, .slice A xs.length c] 36)) 36 #[.string n, .int .u16 t, .int .u32 l', .slice A' xs.length c']
    rw [World.size_alloc] at this
    exact this
  have HC := Lib.hid (fun W (hW : Below w.heap.size w W) => checkS_any n t l A xs c W hn (hT.below hW) (fun x hx' => by have := hx x hx'; unfold maxLen; omega) (by omega))
  have HC' := Lib.hid (fun W (hW : Below w.heap.size w W) => checkS_any n t l' A' xs c' W hn (hT'.below hW) (fun x hx' => by have := hx x hx'; unfold maxLen; omega) (by omega))
  rw [setOk_yes hok] at HC
  rw [setOk_yes hok'] at HC'
  have hsame : sameB n.data.toList n.data.toList = true := by unfold sameB; rw [h64.2]; simp
  have HS := Lib.hid (fun W => Same_any n n (by unfold maxLen at hn; omega) (by unfold maxLen at hn; omega) W)
  rw [hsame] at HS
  have HE := Lib.hid (fun W (hW : Below w.heap.size w W) (g1 : SetB W w.heap.size n t l A xs.length c) (g2 : SetB W (w.heap.size + 1) n t l' A' xs.length c') => equalF_any W (hT.below hW) (hT'.below hW) hx (by omega) g1 g2)
  have H1 := Lib.hid (And.intro hb1 (And.intro k1 k2))
  clear hb1 k1 k2 hT hT' hx hok hok' hsame h64 hn
  unfold setV at *
  go_enter Tryz.func10, Tryz.ntmps10
  go_upto_region 1 with (fail)
  clear hW1
  have x0 := Blk.cell H1.out.2.1 0; have x1 := Blk.cell H1.out.2.1 1; have x2 := Blk.cell H1.out.2.1 2; have x3 := Blk.cell H1.out.2.1 3
  go_wp2_with (fail)
  with_reducible refine (HC.out _ H1.out.1).mono ?_
  rintro e w2 ⟨rfl, hb⟩
  have H2 := Lib.hid (show Below w.heap.size w w2 ∧ SetB w2 w.heap.size n t l A xs.length c ∧ SetB w2 (w.heap.size + 1) n t l' A' xs.length c' from ⟨H1.out.1.trans (hb.mono H1.out.1.size), Blk.below H1.out.2.1 hb (Blk.lt H1.out.2.1), Blk.below H1.out.2.2 hb (Blk.lt H1.out.2.2)⟩)
  clear hb x0 x1 x2 x3 H1
  have y0 := Blk.cell H2.out.2.2 0; have y1 := Blk.cell H2.out.2.2 1; have y2 := Blk.cell H2.out.2.2 2; have y3 := Blk.cell H2.out.2.2 3
  go_wp2_with (fail)
  with_reducible refine (HC'.out _ H2.out.1).mono ?_
  rintro e w3 ⟨rfl, hb⟩
  have H3 := Lib.hid (show Below w.heap.size w w3 ∧ SetB w3 w.heap.size n t l A xs.length c ∧ SetB w3 (w.heap.size + 1) n t l' A' xs.length c' from ⟨H2.out.1.trans (hb.mono H2.out.1.size), Blk.below H2.out.2.1 hb (Blk.lt H2.out.2.1), Blk.below H2.out.2.2 hb (Blk.lt H2.out.2.2)⟩)
  clear hb y0 y1 y2 y3 H2
  have x0 := Blk.cell H3.out.2.1 0
  have y0 := Blk.cell H3.out.2.2 0
  go_wp2_with (fail)
  with_reducible refine (HS.out _).mono ?_
  rintro e w4 ⟨rfl, hb⟩
  have H4 := Lib.hid (show Below w.heap.size w w4 ∧ SetB w4 w.heap.size n t l A xs.length c ∧ SetB w4 (w.heap.size + 1) n t l' A' xs.length c' from ⟨H3.out.1.trans (hb.mono H3.out.1.size), Blk.below H3.out.2.1 hb (Blk.lt H3.out.2.1), Blk.below H3.out.2.2 hb (Blk.lt H3.out.2.2)⟩)
  clear hb x0 y0 H3
  have x1 := Blk.cell H4.out.2.1 1; have x3 := Blk.cell H4.out.2.1 3
  have y1 := Blk.cell H4.out.2.2 1; have y3 := Blk.cell H4.out.2.2 3
  have htt : (t != t) = false := by simp
  go_wp2_with (fail)
  with_reducible refine (HE.out _ H4.out.1 H4.out.2.1 H4.out.2.2).mono ?_
  rintro e w5 ⟨rfl, hb⟩
  have H5 := Lib.hid (H4.out.1.trans (hb.mono H4.out.1.size))
  clear hb
  go_wp2_with (fail)
  go_ret
  exact ⟨rfl, H5.out⟩
end Go.Proofs.YthnngndnpigjbaaGreat

namespace Go.Proofs.YthnngndnpigjbaaGreat
open Go.RowKit Go.Shelf Go.Lib

def Small13P (xs : List RRec) (w : World) (e : Ending) (w' : World) : Prop := (e = .returned (.int .i64 0) ∨ e = .returned (.int .i64 1) ∧ xs.length ≤ 100 ∧ ∀ r ∈ xs, r.small) ∧ Below w.heap.size w w'
end Go.Proofs.YthnngndnpigjbaaGreat
