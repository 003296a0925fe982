/- The walk of package label's Same. -/
import Derived.Test.YtjhhhkhcnohmiaaFold
import Derived.Deep.RegionHeld3
namespace Go.Proofs.Ytjhhhkhcnohmiaa
open Go.RowKit

/-- Are both names, and one? -/
def sameB (a b : Bs) : Bool := decide (a.length = b.length) && (isName a && (isName b && foldB a == foldB b))
theorem toList_mk (l : Bs) : (⟨l.toArray⟩ : ByteArray).toList = l := by rw [ByteArray.toList_eq]
theorem chk_cases (l : Bs) : (isName l = true ∧ chkN l = 0) ∨ (isName l = false ∧ chkN l = 2) := by
  unfold chkN
  cases h : isName l
  · right; exact ⟨rfl, by simp⟩
  · left; exact ⟨rfl, by simp⟩

set_option maxHeartbeats 1000000 in
set_option maxRecDepth 100000 in
theorem Same_any (a b : ByteArray) (ha : a.size ≤ 9223372036854775807) (hb : b.size ≤ 9223372036854775807) (w : World) :
    Calls Try.prog 46 #[.string a, .string b] w fun e w' => e = .returned (.bool (sameB a.data.toList b.data.toList)) ∧ Below w.heap.size w w' := by
  have hCa := fun W => Check_any a (by unfold maxLen; omega) W
  have hCb := fun W => Check_any b (by unfold maxLen; omega) W
  have hFa := fun W => Fold_any a ha W
  have hFb := fun W => Fold_any b hb W
  have hla : a.data.toList.length = a.size := by simp
  have hlb : b.data.toList.length = b.size := by simp
  unfold sameB
  rw [hla, hlb]
  have hca := chk_cases a.data.toList
  have hcb := chk_cases b.data.toList
  generalize chkN a.data.toList = ca at hCa hca
  generalize chkN b.data.toList = cb at hCb hcb
  generalize isName a.data.toList = na at hca ⊢
  generalize isName b.data.toList = nb at hcb ⊢
  generalize foldB a.data.toList = fa at hFa ⊢
  generalize foldB b.data.toList = fb at hFb ⊢
  have HCa := Lib.hid hCa
  have HCb := Lib.hid hCb
  have HFa := Lib.hid hFa
  have HFb := Lib.hid hFb
  clear hCa hCb hFa hFb hla hlb
  by_cases h0 : a.size = b.size
  · have h1 : ((a.size : Int) == (b.size : Int)) = true := by rw [h0]; simp
    have H0 := Lib.hid h0
    clear h0
    rcases hca with ⟨rfl, rfl⟩ | ⟨rfl, rfl⟩
    · rcases hcb with ⟨rfl, rfl⟩ | ⟨rfl, rfl⟩
      · go_enter Try.func46, Try.ntmps46
        go_wp2_with (fail)
        refine (HCa.out _).mono ?_
        rintro e w1 ⟨rfl, hb1⟩
        go_wp2_with (fail)
        refine (HCb.out _).mono ?_
        rintro e w2 ⟨rfl, hb2⟩
        go_wp2_with (fail)
        refine (HFa.out _).mono ?_
        rintro e w3 ⟨rfl, hb3⟩
        go_wp2_with (fail)
        refine (HFb.out _).mono ?_
        rintro e w4 ⟨rfl, hb4⟩
        have k2 := hb1.trans (hb2.mono hb1.size)
        have k3 := k2.trans (hb3.mono k2.size)
        have HK := Lib.hid (k3.trans (hb4.mono k3.size))
        clear hb1 hb2 hb3 hb4 k2 k3
        go_wp2_with (fail)
        go_ret
        exact ⟨ret_b (by simp [H0.out]), HK.out⟩
      · go_enter Try.func46, Try.ntmps46
        go_wp2_with (fail)
        refine (HCa.out _).mono ?_
        rintro e w1 ⟨rfl, hb1⟩
        go_wp2_with (fail)
        refine (HCb.out _).mono ?_
        rintro e w2 ⟨rfl, hb2⟩
        have HK := Lib.hid (hb1.trans (hb2.mono hb1.size))
        clear hb1 hb2
        go_wp2_with (fail)
        go_ret
        exact ⟨ret_b (by simp), HK.out⟩
    · go_enter Try.func46, Try.ntmps46
      go_wp2_with (fail)
      refine (HCa.out _).mono ?_
      rintro e w1 ⟨rfl, hb1⟩
      have HK := Lib.hid hb1
      clear hb1
      go_wp2_with (fail)
      go_ret
      exact ⟨ret_b (by simp), HK.out⟩
  · have h1 : ((a.size : Int) == (b.size : Int)) = false := by simp; omega
    go_enter Try.func46, Try.ntmps46
    go_wp2_with (fail)
    go_ret
    exact ⟨ret_b (by simp [h0]), Below.refl _ _⟩
end Go.Proofs.Ytjhhhkhcnohmiaa
