/- Rows of bytes in memory; the walks of package label's Fold and of the reference's. The walk of package label's Same. -/
import Derived.Test.YthnngndnpigjbaaGreatRet
import Derived.Test.YthnngndnpigjbaaGreatEnds
import Derived.Deep.RegionHeld3
namespace Go.Proofs.YthnngndnpigjbaaGreat
open Go.RowKit

/-- Block g begins with the bytes l, which may be written. -/
def ByR (w : World) (g : Nat) (l : Bs) : Prop := ∃ C fr, w.heap[g]? = some (.cells C 5 fr) ∧ (∀ (j : Nat) (c : UInt8), l[j]? = some c → C[j]? = some (b8 c)) ∧ ∀ (j : Nat), j < l.length → (decide (fr.1 ≤ j) && decide (j < fr.2)) = false
section
variable {w w' : World} {g : Nat} {l : Bs}
theorem ByR.lt (h : ByR w g l) : g < w.heap.size := by
  obtain ⟨C, fr, h, _⟩ := h
  exact (Array.getElem?_eq_some_iff.1 h).1
theorem ByR.cell (h : ByR w g l) {j : Nat} {c : UInt8} (hj : l[j]? = some c) : w.cell? ⟨g, j, none⟩ = some (.int .u8 (c.toNat : Int)) := by
  obtain ⟨C, fr, h, hc, _⟩ := h
  rw [cell_of_row w g j C _ fr h]
  exact hc j c hj
theorem ByR.frozen (h : ByR w g l) {j : Nat} (hj : j < l.length) : w.frozen? ⟨g, j, none⟩ = false := by
  obtain ⟨C, fr, h, _, hf⟩ := h
  have := hf j hj
  simp only [World.frozen?, h]
  exact this
theorem ByR.keep (h : ByR w g l) (hk : w'.heap[g]? = w.heap[g]?) : ByR w' g l := by
  obtain ⟨C, fr, h, hc⟩ := h
  exact ⟨C, fr, hk.trans h, hc⟩
theorem ByR.drewN (h : ByR w g l) (n : Nat) : ByR (w.drewN n) g l := h
theorem ByR.alloc (h : ByR w g l) (o : Obj) : ByR (w.alloc o) g l := h.keep (Below.heap_alloc w o g h.lt)
theorem ByR.far (h : ByR w g l) {p : Addr} (hp : g ≠ p.block) (u : Value) : ByR (w.setCell p u) g l := h.keep (Below.heap_setCell w p u g hp)
theorem ByR.below {B : Nat} (h : ByR w g l) (hb : Below B w w') (hg : g < B) : ByR w' g l := h.keep (hb.block g hg)
theorem ByR.set_ (h : ByR w g l) (i : Nat) (c : UInt8) : ByR (w.setCell ⟨g, i, none⟩ (.int .u8 (c.toNat : Int))) g (l.set i c) := by
  obtain ⟨C, fr, h, hc, hf⟩ := h
  refine ⟨C.setIfInBounds i (b8 c), fr, ?_, fun j d hd => ?_, fun j hj => hf j (by simpa using hj)⟩
  · simp [World.setCell, Array.getElem?_modify, h, b8]
  · by_cases hij : i = j
    · subst hij
      have hlt : i < l.length := by have := (List.getElem?_eq_some_iff.1 hd).1; simpa using this
      rw [List.getElem?_set_self hlt] at hd
      cases hd
      have hC : i < C.size := (Array.getElem?_eq_some_iff.1 (hc i l[i] (List.getElem?_eq_getElem hlt))).1
      rw [Array.getElem?_setIfInBounds_self_of_lt hC]
    · rw [List.getElem?_set_ne hij] at hd
      rw [Array.getElem?_setIfInBounds_ne hij]
      exact hc j d hd
theorem byR_new (w : World) (s : ByteArray) (cap : Nat) : ByR (w.alloc (.cells (bytesRow s cap) 5 ((bytesRow s cap).size, (bytesRow s cap).size + 1))).drew w.heap.size s.data.toList := by
  refine ⟨bytesRow s cap, _, heap_alloc_new w _, fun j c hj => ?_, fun j hj => ?_⟩
  · have hlt := (List.getElem?_eq_some_iff.1 hj).1
    rw [bytesRow_at s cap j (by simpa using hlt)]
    have : s.data[j]'(by simpa using hlt) = c := by
      have := (List.getElem?_eq_some_iff.1 hj).2
      simpa using this
    rw [this]; rfl
  · have h1 : s.data.toList.length ≤ (bytesRow s cap).size := by simp [bytesRow]
    have : ¬ (bytesRow s cap).size ≤ j := by omega
    simp [this]
theorem byR_own {β : Type} (B : Nat) (f : β → Bs) : Own (fun s W => ByR W B (f s)) := by
  intro s X Y row hs hg hrow
  refine hs.keep ?_
  by_cases e : some B = row
  · obtain ⟨o, ho, hc⟩ := hrow B e.symm
    obtain ⟨C, fr, h, _⟩ := hs
    rw [h] at ho
    cases ho
    cases hc
  · exact hg.block B hs.lt e
/-- What 'string' makes of such a row. -/
theorem ByR.str {P : Program} (h : ByR w g l) {src dst e : TypeId} (cap : Nat) (hs : P.underlying src = some (.slice e)) (he : P.underlying e = some (.int .u8)) (hd : P.underlying dst = some .string) :
    (convert src dst (.slice (some ⟨g, 0, none⟩) l.length cap)).run P w = .ok (.string ⟨l.toArray⟩) w :=
  run_convert_bytes_back w src dst e ⟨g, 0, none⟩ cap l hs he hd (fun j hj => by
    have : (⟨g, 0, none⟩ : Addr).add j = ⟨g, j, none⟩ := by unfold Addr.add; split <;> simp_all
    rw [this]
    exact h.cell (List.getElem?_eq_getElem hj))
end

/-- The first k bytes made small. -/
def foldTo (l : Bs) (k : Nat) : Bs := (l.take k).map lowB ++ l.drop k
theorem foldTo_zero (l : Bs) : foldTo l 0 = l := by simp [foldTo]
theorem foldTo_all (l : Bs) : foldTo l l.length = foldB l := by simp [foldTo, foldB]
theorem foldTo_length (l : Bs) (k : Nat) : (foldTo l k).length = l.length := by simp [foldTo]; omega
theorem foldTo_at {l : Bs} {k : Nat} {c : UInt8} (h : l[k]? = some c) : (foldTo l k)[k]? = some c := by
  have hlt := (List.getElem?_eq_some_iff.1 h).1
  unfold foldTo
  rw [List.getElem?_append_right (by simp; omega)]
  simp only [List.length_map, List.length_take, Nat.min_eq_left (Nat.le_of_lt hlt), Nat.sub_self, List.getElem?_drop, Nat.add_zero]
  exact h
theorem foldTo_succ {l : Bs} {k : Nat} {c : UInt8} (h : l[k]? = some c) : (foldTo l k).set k (lowB c) = foldTo l (k + 1) := by
  obtain ⟨hlt, rfl⟩ := List.getElem?_eq_some_iff.1 h
  unfold foldTo
  rw [List.set_append_right _ _ (by simp; omega)]
  simp only [List.length_map, List.length_take, Nat.min_eq_left (Nat.le_of_lt hlt), Nat.sub_self]
  rw [List.drop_eq_getElem_cons hlt, List.set_cons_zero, List.take_succ_eq_append_getElem hlt, List.map_append, List.append_assoc]
  rfl
theorem foldTo_same {l : Bs} {k : Nat} {c : UInt8} (h : l[k]? = some c) (hc : lowB c = c) : foldTo l k = foldTo l (k + 1) := by
  rw [← foldTo_succ h, hc]
  have h1 := foldTo_at h
  obtain ⟨hlt, h2⟩ := List.getElem?_eq_some_iff.1 h1
  conv => rhs; rw [← h2]
  exact (List.set_getElem_self hlt).symm

set_option maxHeartbeats 1000000 in
set_option maxRecDepth 100000 in
theorem Fold_any (s : ByteArray) (hs : s.size ≤ 9223372036854775807) (w : World) :
    Calls Tryz.prog 30 #[.string s] w fun e w' => e = .returned (.string ⟨(foldB s.data.toList).toArray⟩) ∧ Below w.heap.size w w' := by
  have hcv := fun w : World => run_bytes_of_string (P := Tryz.prog) w _ _ _ s Tryz.underlying9 Tryz.underlying106 Tryz.underlying5
  have hs1 : (s.size : Int) ≤ 9223372036854775807 := by omega
  go_enter Tryz.func30, Tryz.ntmps30
  go_wp2_with (fail)
  have hsz : s.data.toList.length = s.size := by simp
  have HB0 : Below w.heap.size w (w.alloc (.cells (bytesRow s (grownCap w s.size 0 5)) 5 ((bytesRow s (grownCap w s.size 0 5)).size, (bytesRow s (grownCap w s.size 0 5)).size + 1))).drew := ((Below.refl _ _).alloc (Nat.le_refl _) _).drew
  have hR0 := byR_new w s (grownCap w s.size 0 5)
  generalize grownCap w s.size 0 5 = cap at HB0 hR0 ⊢
  have HS := Lib.hid hsz
  clear hcv hsz
  go_loopg [10] s.size (fun g i wr => ∃ k : Nat, g + k = s.size ∧ i = .int .i64 (k : Int) ∧ ByR wr w.heap.size (foldTo s.data.toList k) ∧ Below w.heap.size w wr)
  case atStart => exact ⟨0, by omega, rfl, by rw [foldTo_zero]; exact hR0, HB0⟩
  case round =>
    obtain ⟨k, hk, rfl, hB, hb⟩ := hrel
    clear hR0 HB0
    by_cases hlt : k < s.size
    · obtain ⟨c, hc⟩ : ∃ c, s.data.toList[k]? = some c := ⟨_, List.getElem?_eq_getElem (by have := HS.out; omega)⟩
      have hki : (k : Int) < (s.size : Int) := by omega
      have c0 := hB.cell (foldTo_at hc)
      have f0 := hB.frozen (j := k) (by rw [foldTo_length]; have := HS.out; omega)
      have hc255 := c.toNat_lt
      have HC := Lib.hid hc
      clear hc
      by_cases h65 : 65 ≤ c.toNat ∧ c.toNat ≤ 90
      · have h1 : (65 : Int) ≤ (c.toNat : Int) := by omega
        have h2 : (c.toNat : Int) ≤ 90 := by omega
        have hlow : ((lowB c).toNat : Int) = (c.toNat : Int) + 32 := by rw [lowB_toNat, if_pos h65]; omega
        have HLo := Lib.hid hlow
        clear hlow h65
        go_wp2_with (fail)
        go_roundg (s.size - (k + 1))
        case measure => omega
        case rel =>
          refine ⟨k + 1, by omega, by go_num, ?_, hb.setCell (p := ⟨w.heap.size, k, none⟩) (Nat.le_refl _) _⟩
          have h3 := hB.set_ k (lowB c)
          rw [foldTo_succ HC.out, HLo.out] at h3
          exact h3
      · have hlow : lowB c = c := by unfold lowB; rw [if_neg h65]
        have HLo := Lib.hid hlow
        have hT : ¬ (65 : Int) ≤ (c.toNat : Int) ∨ ((65 : Int) ≤ (c.toNat : Int) ∧ ¬ (c.toNat : Int) ≤ 90) := by omega
        clear hlow h65
        rcases hT with h1 | ⟨h1, h2⟩
        all_goals
          go_wp2_with (fail)
          go_roundg (s.size - (k + 1))
          case measure => omega
          case rel => exact ⟨k + 1, by omega, by go_num, by rw [← foldTo_same HC.out HLo.out]; exact hB, hb⟩
    · obtain rfl : k = s.size := by omega
      have hst := hB.str (P := Tryz.prog) (src := 106) (dst := 9) cap Tryz.underlying106 Tryz.underlying5 Tryz.underlying9
      rw [foldTo_length, HS.out, show foldTo s.data.toList s.size = foldB s.data.toList by rw [← HS.out, foldTo_all]] at hst
      clear hlt
      go_wp2_with (fail)
      go_ret
      exact ⟨rfl, hb⟩
end Go.Proofs.YthnngndnpigjbaaGreat

namespace Go.Proofs.YthnngndnpigjbaaGreat
open Go.RowKit

/-- Are both names, and one? -/
def sameB (a b : Bs) : Bool := decide (a.length = b.length) && (isName a && (isName b && foldB a == foldB b))
theorem toList_mk (l : Bs) : (⟨l.toArray⟩ : ByteArray).toList = l := by rw [ByteArray.toList_eq]
theorem chk_cases (l : Bs) : (isName l = true ∧ chkN l = 0) ∨ (isName l = false ∧ chkN l = 2) := by
  unfold chkN
  cases h : isName l
  · right; exact ⟨rfl, by simp⟩
  · left; exact ⟨rfl, by simp⟩

set_option maxHeartbeats 1000000 in
set_option maxRecDepth 100000 in
theorem Same_any (a b : ByteArray) (ha : a.size ≤ 9223372036854775807) (hb : b.size ≤ 9223372036854775807) (w : World) :
    Calls Tryz.prog 13 #[.string a, .string b] w fun e w' => e = .returned (.bool (sameB a.data.toList b.data.toList)) ∧ Below w.heap.size w w' := by
  have hCa := fun W => Check_any a (by unfold maxLen; omega) W
  have hCb := fun W => Check_any b (by unfold maxLen; omega) W
  have hFa := fun W => Fold_any a ha W
  have hFb := fun W => Fold_any b hb W
  have hla : a.data.toList.length = a.size := by simp
  have hlb : b.data.toList.length = b.size := by simp
  unfold sameB
  rw [hla, hlb]
  have hca := chk_cases a.data.toList
  have hcb := chk_cases b.data.toList
  generalize chkN a.data.toList = ca at hCa hca
  generalize chkN b.data.toList = cb at hCb hcb
  generalize isName a.data.toList = na at hca ⊢
  generalize isName b.data.toList = nb at hcb ⊢
  generalize foldB a.data.toList = fa at hFa ⊢
  generalize foldB b.data.toList = fb at hFb ⊢
  have HCa := Lib.hid hCa
  have HCb := Lib.hid hCb
  have HFa := Lib.hid hFa
  have HFb := Lib.hid hFb
  clear hCa hCb hFa hFb hla hlb
  by_cases h0 : a.size = b.size
  · have h1 : ((a.size : Int) == (b.size : Int)) = true := by rw [h0]; simp
    have H0 := Lib.hid h0
    clear h0
    rcases hca with ⟨rfl, rfl⟩ | ⟨rfl, rfl⟩
    · rcases hcb with ⟨rfl, rfl⟩ | ⟨rfl, rfl⟩
      · go_enter Tryz.func13, Tryz.ntmps13
        go_wp2_with (fail)
        refine (HCa.out _).mono ?_
        rintro e w1 ⟨rfl, hb1⟩
        go_wp2_with (fail)
        refine (HCb.out _).mono ?_
        rintro e w2 ⟨rfl, hb2⟩
        go_wp2_with (fail)
        refine (HFa.out _).mono ?_
        rintro e w3 ⟨rfl, hb3⟩
        go_wp2_with (fail)
        refine (HFb.out _).mono ?_
        rintro e w4 ⟨rfl, hb4⟩
        have k2 := hb1.trans (hb2.mono hb1.size)
        have k3 := k2.trans (hb3.mono k2.size)
        have HK := Lib.hid (k3.trans (hb4.mono k3.size))
        clear hb1 hb2 hb3 hb4 k2 k3
        go_wp2_with (fail)
        go_ret
        exact ⟨ret_b (by simp [H0.out]), HK.out⟩
      · go_enter Tryz.func13, Tryz.ntmps13
        go_wp2_with (fail)
        refine (HCa.out _).mono ?_
        rintro e w1 ⟨rfl, hb1⟩
        go_wp2_with (fail)
        refine (HCb.out _).mono ?_
        rintro e w2 ⟨rfl, hb2⟩
        have HK := Lib.hid (hb1.trans (hb2.mono hb1.size))
        clear hb1 hb2
        go_wp2_with (fail)
        go_ret
        exact ⟨ret_b (by simp), HK.out⟩
    · go_enter Tryz.func13, Tryz.ntmps13
      go_wp2_with (fail)
      refine (HCa.out _).mono ?_
      rintro e w1 ⟨rfl, hb1⟩
      have HK := Lib.hid hb1
      clear hb1
      go_wp2_with (fail)
      go_ret
      exact ⟨ret_b (by simp), HK.out⟩
  · have h1 : ((a.size : Int) == (b.size : Int)) = false := by simp; omega
    go_enter Tryz.func13, Tryz.ntmps13
    go_wp2_with (fail)
    go_ret
    exact ⟨ret_b (by simp [h0]), Below.refl _ _⟩
end Go.Proofs.YthnngndnpigjbaaGreat
