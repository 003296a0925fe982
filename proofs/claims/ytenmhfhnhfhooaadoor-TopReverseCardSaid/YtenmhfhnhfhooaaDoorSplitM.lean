/- Texts joined by dots, taken apart: plain. Conditions: none. -/
import Derived.Test.YtenmhfhnhfhooaaDoorLabelMath
import Derived.Lib.IndexLaws
import Derived.Lib.Join
namespace Go.Proofs.YtenmhfhnhfhooaaDoor
open Go.Lib

theorem ix_no {c : UInt8} : ∀ {x : Bs}, c ∉ x → Lib.indexByte x c = -1
  | [], _ => rfl
  | b :: l, h => by
    have h1 : (b == c) = false := by rw [beq_eq_false_iff_ne]; exact fun e => h (by simp [e])
    have h2 := ix_no (x := l) (fun e => h (List.mem_cons_of_mem _ e))
    unfold Lib.indexByte
    rw [h1, h2]; rfl
theorem ix_at {c : UInt8} {r : Bs} : ∀ {x : Bs}, c ∉ x → Lib.indexByte (x ++ c :: r) c = (x.length : Int)
  | [], _ => by simp [Lib.indexByte]
  | b :: l, h => by
    have h1 : (b == c) = false := by rw [beq_eq_false_iff_ne]; exact fun e => h (by simp [e])
    have h2 := ix_at (r := r) (x := l) (fun e => h (List.mem_cons_of_mem _ e))
    rw [List.cons_append]
    unfold Lib.indexByte
    rw [h1, h2]
    have h3 : ((l.length : Int) == -1) = false := by rw [beq_eq_false_iff_ne]; omega
    rw [h3]
    simp
theorem join_two (a b : Bs) (r : List Bs) : Lib.join (a :: b :: r) [46] = a ++ 46 :: Lib.join (b :: r) [46] := by
  rw [Lib.join_cons, Lib.join_cons]; simp [Lib.joinTail]
theorem join_drop {L : List Bs} {k : Nat} (h : k + 1 < L.length) : Lib.join (L.drop k) [46] = L[k] ++ 46 :: Lib.join (L.drop (k + 1)) [46] := by
  have h1 : L.drop k = L[k] :: L.drop (k + 1) := List.drop_eq_getElem_cons (by omega)
  have h2 : L.drop (k + 1) = L[k + 1] :: L.drop (k + 2) := List.drop_eq_getElem_cons h
  rw [h2] at h1
  rw [h1, h2]
  exact join_two _ _ _
theorem join_last {L : List Bs} {k : Nat} (h : k + 1 = L.length) : Lib.join (L.drop k) [46] = L[k] := by
  have h1 : L.drop k = L[k] :: L.drop (k + 1) := List.drop_eq_getElem_cons (by omega)
  have h2 : L.drop (k + 1) = [] := List.drop_eq_nil_of_le (by omega)
  rw [h1, h2, Lib.join_one]
theorem take_add (a b : Bs) : (⟨(a ++ 46 :: b).toArray⟩ : ByteArray).extract 0 a.length = ⟨a.toArray⟩ := by
  apply ByteArray.ext
  rw [ByteArray.data_extract]
  apply Array.toList_inj.1
  rw [Array.toList_extract, List.extract_eq_take_drop]
  simp
theorem drop_add (a b : Bs) : (⟨(a ++ 46 :: b).toArray⟩ : ByteArray).extract (a.length + 1) (a.length + 1 + b.length) = ⟨b.toArray⟩ := by
  apply ByteArray.ext
  rw [ByteArray.data_extract]
  apply Array.toList_inj.1
  rw [Array.toList_extract, List.extract_eq_take_drop]
  simp
end Go.Proofs.YtenmhfhnhfhooaaDoor
