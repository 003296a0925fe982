/- The walks of slices.Reverse, slices.AppendSeq, slices.Collect at texts. -/
import Derived.Test.YthnngndnpigjbaaGreatRef01
import Derived.Test.YthnngndnpigjbaaGreatRangeN
import Derived.RegionTactic
import Derived.RangeFuncNested
import Derived.RangeFuncBound
import Derived.RangeFuncCalls
import Derived.RangeFuncLeaves
import Derived.RangeFuncBox
import Derived.RangeFuncFrom
import Derived.Shelf.Abstract
import Derived.Shelf.RegionOpen
import Derived.Shelf.AbstractIn
import Derived.TacticsInMore
import Derived.LoopNIn
import Derived.LoopIn
import Derived.Sort.LoopGhostIn
import Derived.Sort.QuietIn
import Derived.Stop.RegionWithIn
import Derived.Deep.DeepMust
import Derived.Deep.LoopGhost
import Derived.Outline
namespace Go.Proofs.YthnngndnpigjbaaGreat
open Go.RowKit Go.Shelf Go.Lib
attribute [local go_sem] Oper.semAt_some

/-- A list whose first k and last k are exchanged. -/
def revK {α : Type} (xs : List α) (k : Nat) (d : α) : List α := (List.range xs.length).map fun i => if i < k ∨ xs.length ≤ i + k then xs.getD (xs.length - 1 - i) d else xs.getD i d
section
variable {α : Type} {xs : List α} {d : α}
theorem revK_len (k : Nat) : (revK xs k d).length = xs.length := by simp [revK]
theorem revK_at {k i : Nat} (h : i < xs.length) : (revK xs k d)[i]? = some (if i < k ∨ xs.length ≤ i + k then xs.getD (xs.length - 1 - i) d else xs.getD i d) := by
  unfold revK
  rw [List.getElem?_map, List.getElem?_range h]
  rfl
theorem getD_at {i : Nat} (h : i < xs.length) : xs[i]? = some (xs.getD i d) := by
  rw [List.getD_eq_getElem?_getD, List.getElem?_eq_getElem h]
  rfl
theorem revK_zero : revK xs 0 d = xs := by
  apply List.ext_getElem?
  intro i
  by_cases h : i < xs.length
  · rw [revK_at h, if_neg (by omega), getD_at h]
  · rw [List.getElem?_eq_none (by rw [revK_len]; omega), List.getElem?_eq_none (by omega)]
theorem revK_done {k : Nat} (h : xs.length ≤ 2 * k + 1) : revK xs k d = xs.reverse := by
  apply List.ext_getElem?
  intro i
  by_cases hi : i < xs.length
  · rw [revK_at hi, List.getElem?_reverse hi]
    by_cases h2 : i < k ∨ xs.length ≤ i + k
    · rw [if_pos h2, ← getD_at (by omega)]
    · rw [if_neg h2, show xs.length - 1 - i = i by omega, ← getD_at hi]
  · rw [List.getElem?_eq_none (by rw [revK_len]; omega), List.getElem?_eq_none (by simp; omega)]
theorem revK_step {k : Nat} (h : 2 * k + 1 < xs.length) : ((revK xs k d).set k (xs.getD (xs.length - 1 - k) d)).set (xs.length - 1 - k) (xs.getD k d) = revK xs (k + 1) d := by
  apply List.ext_getElem?
  intro i
  by_cases hi : i < xs.length
  · rw [revK_at hi]
    by_cases h1 : i = xs.length - 1 - k
    · subst h1
      rw [List.getElem?_set_self (by rw [List.length_set, revK_len]; omega), if_pos (by omega), show xs.length - 1 - (xs.length - 1 - k) = k by omega]
    · rw [List.getElem?_set_ne (by omega)]
      by_cases h2 : i = k
      · subst h2
        rw [List.getElem?_set_self (by rw [revK_len]; omega), if_pos (by omega)]
      · rw [List.getElem?_set_ne (by omega), revK_at hi]
        congr 1
        by_cases h3 : i < k ∨ xs.length ≤ i + k
        · rw [if_pos h3, if_pos (by omega)]
        · rw [if_neg h3, if_neg (by omega)]
  · rw [List.getElem?_eq_none (by rw [List.length_set, List.length_set, revK_len]; omega), List.getElem?_eq_none (by rw [revK_len]; omega)]
end

set_option maxRecDepth 100000 in
set_option maxHeartbeats 4000000 in
theorem reverse_any (A : Option Addr) (c : Nat) (xs : List ByteArray) (w : World) (h : Sl w 1 (.slice A xs.length c) xs.length (xs.map Value.string)) (hn : xs.length ≤ 1000000) :
    Calls Tryz.prog 85 #[.slice A xs.length c] w fun e w' => e = .returned (.tuple #[]) ∧ Sl w' 1 (.slice A xs.length c) xs.length (xs.reverse.map Value.string) ∧ KeepK (fun i => i < w.heap.size ∧ (Value.slice A xs.length c).ownBlock ≠ some i) w w' := by
  have HS := Lib.hid h
  have hnI : (xs.length : Int) ≤ 1000000 := by omega
  clear h
  go_enter Tryz.func85, Tryz.ntmps85
  go_wp2_with (fail)
  go_loopg [2, 3] xs.length (fun g v2 v3 wr => ∃ k : Nat, g + k = xs.length ∧ v2 = .int .i64 (k : Int) ∧ v3 = .int .i64 ((xs.length : Int) - 1 - (k : Int)) ∧ Aside (Sl wr 1 (.slice A xs.length c) xs.length ((revK xs k ⟨#[]⟩).map Value.string)) ∧ Aside (KeepK (fun i => i < w.heap.size ∧ (Value.slice A xs.length c).ownBlock ≠ some i) w wr))
  case atStart => exact ⟨0, by omega, rfl, by go_num, (show Aside _ from by rw [revK_zero]; exact HS.out), KeepK.refl _ _⟩
  case round =>
    obtain ⟨k, hg, rfl, rfl, hS, hK⟩ := hrel
    by_cases hlt : 2 * k + 1 < xs.length
    · obtain ⟨g, cap, hv, hgl, hcc, hcm, hcell⟩ := hS.out.form (by omega)
      injection hv with hA _ hc
      subst hA hc
      have hltI : (k : Int) < (xs.length : Int) - 1 - (k : Int) := by omega
      have hk0 : k < xs.length := by omega
      have hj : xs.length - 1 - k < xs.length := by omega
      have r0 := revK_at (xs := xs) (d := ⟨#[]⟩) (k := k) hk0
      rw [if_neg (by omega)] at r0
      have r1 := revK_at (xs := xs) (d := ⟨#[]⟩) (k := k) hj
      rw [if_neg (by omega)] at r1
      have c0 := hcell k _ (by rw [List.getElem?_map, r0]; rfl)
      have c1 := hcell (xs.length - 1 - k) _ (by rw [List.getElem?_map, r1]; rfl)
      have f0 := hS.out.free (g := g) rfl (j := k) (by omega)
      have f1 := hS.out.free (g := g) rfl (j := xs.length - 1 - k) (by omega)
      have hjI : (xs.length : Int) - 1 - (k : Int) = ((xs.length - 1 - k : Nat) : Int) := by omega
      have hstep := revK_step (xs := xs) (d := ⟨#[]⟩) hlt
      rw [hjI] at hltI ⊢
      obtain ⟨j, hj'⟩ : ∃ j, xs.length - 1 - k = j := ⟨_, rfl⟩
      rw [hj'] at hltI c1 f1 hstep ⊢
      have hjl : (j : Int) < (xs.length : Int) := by omega
      have hkj : k < j := by omega
      have hkl : (k : Int) < (xs.length : Int) := by omega
      have HZ := Lib.hid (And.intro hstep (And.intro hj' (And.intro hgl hlt)))
      generalize xs.getD k ⟨#[]⟩ = x at c0 HZ
      generalize xs.getD j ⟨#[]⟩ = y at c1 HZ
      have hne : (⟨g, k, none⟩ : Addr) ≠ ⟨g, j, none⟩ := by intro h; injection h; omega
      clear hcell r0 r1 hj hjI hcc hcm hstep hj' hlt hgl
      go_wp2_with (fail)
      go_region
      all_goals go_wp2_with (fail)
      all_goals
        obtain ⟨hstep, hj', hgl, hlt⟩ := HZ.out
        go_roundg (xs.length - (k + 1))
        case measure => omega
        case rel =>
          refine ⟨k + 1, by omega, by go_num, by congr 1; omega, ?_, ?_⟩
          · show Sl _ _ _ _ _
            rw [← hstep, List.map_set, List.map_set]
            exact ((hS.out.set_ (g := g) rfl k (.string y) (by omega)).set_ (g := g) rfl j (.string x) (by omega)).drew
          · exact ((hK.out.setCell (p := ⟨g, k, none⟩) (fun i hi e => hi.2 (by rw [e]; rfl)) _).setCell (p := ⟨g, j, none⟩) (fun i hi e => hi.2 (by rw [e]; rfl)) _).drew
    · have hltI : ¬ (k : Int) < (xs.length : Int) - 1 - (k : Int) := by omega
      have hd := revK_done (xs := xs) (d := ⟨#[]⟩) (k := k) (by omega)
      have HD := Lib.hid hd
      clear hd
      go_wp2_with (fail)
      refine bodyPost_end (results_none rfl _ _ _) rfl ?_
      refine ⟨rfl, ?_, hK.out⟩
      have h7 := hS.out
      rw [HD.out] at h7
      simpa using h7
end Go.Proofs.YthnngndnpigjbaaGreat
