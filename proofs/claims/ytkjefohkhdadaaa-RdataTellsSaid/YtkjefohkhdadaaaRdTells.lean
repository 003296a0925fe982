/- The walk of hardtacklaw04.RdataTells: any data of any type are right or not, and have their names, small letters, address, least number, and texts. Conditions: none. -/
import Derived.Test.YtkjefohkhdadaaaRef04E
import Derived.Test.YtkjefohkhdadaaaShJoin
import Derived.Test.YtkjefohkhdadaaaLives04
import Derived.Test.YtkjefohkhdadaaaSameT
namespace Go.Proofs.Ytkjefohkhdadaaa
open Go.RowKit Go.Lib

theorem textsF_len : ∀ (f : Nat) (l : Bs) (ts : List Bs), textsF f l = some ts → ts.length ≤ l.length
  | 0, [], ts, h => by unfold textsF at h; cases h; simp
  | 0, _ :: _, _, h => by unfold textsF at h; cases h
  | _ + 1, [], ts, h => by unfold textsF at h; cases h; simp
  | f + 1, k :: t, ts, h => by
    rw [textsF_cons] at h
    split at h
    · cases hq : textsF f (t.drop k.toNat) with
      | none => rw [hq] at h; cases h
      | some us =>
        rw [hq] at h
        have := textsF_len f _ us hq
        rw [List.length_drop] at this
        have h2 : t.take k.toNat :: us = ts := Option.some.inj h
        subst h2
        simp; omega
    · cases h
def baL (ns : List Bs) : List ByteArray := ns.map fun x => ⟨x.toArray⟩
theorem baL_strs (ns : List Bs) : (baL ns).map Value.string = strs ns := by simp [baL, strs]
theorem baL_len (ns : List Bs) : (baL ns).length = ns.length := by simp [baL]
def namesX (t : Int) (l : Bs) : List ByteArray := baL (((lookN t l).map (·.2.1)).getD [])
def textsX (l : Bs) : List ByteArray := baL (if okD 16 l = true then (textsN l).getD [] else [])
theorem namesX_post {t : Int} {l : Bs} {w w' : World} {e : Ending} (h : NamesPost (lookN t l) w e w') : ∃ A c, e = .returned (.slice A (namesX t l).length c) ∧ TTab w' A ((namesX t l).map Value.string) ∧ Below w.heap.size w w' := by
  obtain ⟨A, c, he, hS, _, hb⟩ := h
  unfold namesX
  rw [baL_len, baL_strs]
  exact ⟨A, c, he, ttab_of_sl (c := c) (by rw [show (strs (((lookN t l).map (·.2.1)).getD [])).length = (((lookN t l).map (·.2.1)).getD []).length by simp [strs]]; exact hS), hb⟩
theorem textsX_post {l : Bs} {w w' : World} {e : Ending} (h : TextsPost2 l w e w') : ∃ A c, e = .returned (.tuple #[.slice A (textsX l).length c, .int .i64 (if okD 16 l = true then 0 else 2)]) ∧ TTab w' A ((textsX l).map Value.string) ∧ Below w.heap.size w w' := by
  unfold textsX
  rw [baL_len, baL_strs]
  rcases h with ⟨hq, he, hb⟩ | ⟨ts, A, c, hok, hq, he, hS, _, hb⟩
  · rw [hq]
    exact ⟨none, 0, he, (fun hn => absurd hn (by simp [strs])), hb⟩
  · rw [hok, if_pos rfl, if_pos rfl, hq]
    simp only [Option.getD]
    exact ⟨A, c, he, ttab_of_sl (c := c) (by rw [show (strs ts).length = ts.length by simp [strs]]; exact hS), hb⟩
theorem namesX_len (t : Int) (l : Bs) : (namesX t l).length ≤ 1000000 := by
  unfold namesX
  rw [baL_len]
  cases hq : lookN t l with
  | none => simp
  | some p =>
    obtain ⟨f, hf⟩ : ∃ f, formN t = some f := by
      cases hf : formN t with
      | some f => exact ⟨f, rfl⟩
      | none => unfold lookN at hq; rw [hf] at hq; cases hq
    have h1 := cutN_len (look_cut hf hq)
    have h2 := formN_le' hf
    simp only [Option.map, Option.getD]
    omega
theorem textsX_len (l : Bs) : (textsX l).length ≤ 1000000 := by
  unfold textsX
  rw [baL_len]
  split
  · rename_i hok
    have h4 := okD_txt hok
    obtain ⟨ts, ht⟩ := h4.2
    rw [ht]
    simp only [Option.getD]
    unfold textsN at ht
    split at ht
    · cases ht
    · rename_i us hu
      split at ht
      · cases ht
      · cases ht
        have := textsF_len _ _ _ hu
        omega
  · simp
theorem join_flat : ∀ ns : List Bs, Lib.join ns [] = ns.flatten := by
  intro ns
  cases ns with
  | nil => rfl
  | cons x r => rw [Lib.join_cons]; simp [Lib.joinTail]
/-- strings.Join of the names of right data. -/
theorem joins_of {V : World} {A : Option Addr} {c : Nat} {ns : List Bs} (h : Sl V 1 (.slice A ns.length c) ns.length (strs ns)) (h1 : 1 ≤ ns.length) (h2 : ns.length ≤ 1000000) (h3 : ns.flatten.length ≤ 1000000) : Joins V A ns.length c ⟨ns.flatten.toArray⟩ := by
  obtain ⟨g, cap, hv, hg, hnc, hcm, hc⟩ := h.form h1
  injection hv with hA _ hcap
  subst hA hcap
  intro W hb
  have hm : (baL ns).map (·.data.toList) = ns := by unfold baL; rw [List.map_map]; exact List.map_id' ns
  have hj : Lib.join ((baL ns).map (·.data.toList)) (⟨#[]⟩ : ByteArray).data.toList = ns.flatten := by rw [hm]; exact join_flat ns
  have := join_many g 0 c (baL ns) ⟨#[]⟩ W (fun j x hx => by
    rw [Nat.zero_add]
    refine (hb.cell (p := ⟨g, j, none⟩) hg).trans (hc j _ ?_)
    rw [← baL_strs, List.getElem?_map, hx]; rfl) (Nat.lt_of_lt_of_le hg hb.size) (by rw [baL_len]; omega) (by rw [baL_len]; exact hnc) (by rw [hj]; omega)
  rw [hj, baL_len] at this
  exact this
end Go.Proofs.Ytkjefohkhdadaaa
