/- Options as bytes. Plain: no program in sight. Conditions: none. -/
import Derived.Test.YthjkdpphbipgfaaOpt
import Derived.Test.YthjkdpphbipgfaaReaderN
namespace Go.Proofs.Ythjkdpphbipgfaa

theorem beN_bigB2 {n : Nat} (h : n < 65536) : beN (bigB n 2) = n := by
  have e : bigB n 2 = [bigI n 6, bigI n 7] := rfl
  rw [e]
  simp only [beN, List.foldl_cons, List.foldl_nil, bigI_toNat, Nat.reduceSub, Nat.reducePow]
  omega
/-- An option's bytes. -/
def optB (o : Opt) : List UInt8 := bigB o.c.toNat 2 ++ (bigB o.d.size 2 ++ o.d.data.toList)
def optsB (xs : List Opt) : List UInt8 := xs.flatMap optB
def Opt.fits (o : Opt) : Prop := (0 ≤ o.c ∧ o.c ≤ 65535) ∧ o.d.size ≤ 65535
theorem optB_length (o : Opt) : (optB o).length = 4 + o.d.size := by
  have : o.d.data.toList.length = o.d.size := by simp
  unfold optB; rw [List.length_append, List.length_append, bigB_length, bigB_length, this]; omega
theorem optsB_snoc (xs : List Opt) (o : Opt) : optsB (xs ++ [o]) = optsB xs ++ optB o := by unfold optsB; simp
theorem optsB_take {xs : List Opt} {k : Nat} {o : Opt} (hk : xs[k]? = some o) : optsB (xs.take (k + 1)) = optsB (xs.take k) ++ optB o := by
  have h := (List.getElem?_eq_some_iff.1 hk)
  obtain ⟨h1, h2⟩ := h
  rw [List.take_succ_eq_append_getElem h1, h2, optsB_snoc]
theorem optsB_split {xs : List Opt} {k : Nat} {o : Opt} (hk : xs[k]? = some o) : ∃ r, optsB xs = optsB (xs.take k) ++ (optB o ++ r) := by
  refine ⟨optsB (xs.drop (k + 1)), ?_⟩
  have h1 := (List.getElem?_eq_some_iff.1 hk).1
  conv => lhs; rw [← List.take_append_drop (k + 1) xs]
  rw [← List.append_assoc, ← optsB_take hk]
  unfold optsB; rw [List.flatMap_append]
theorem ext_toL (s : ByteArray) (i j : Nat) : (s.extract i j).data.toList = (s.data.toList.drop i).take (j - i) := by
  rw [ByteArray.data_extract, Array.toList_extract, List.extract_eq_take_drop]
theorem ba_of_toList {a b : ByteArray} (h : a.data.toList = b.data.toList) : a = b := by
  apply ByteArray.ext
  exact Array.toList_inj.1 h
/-- Where the k-th option begins. -/
def optAt (xs : List Opt) (k : Nat) : Nat := (optsB (xs.take k)).length
theorem optAt_zero (xs : List Opt) : optAt xs 0 = 0 := rfl
/-- What stands at the place of an option. -/
theorem opt_at {s : ByteArray} {xs : List Opt} {k : Nat} {o : Opt} (hs : s.data.toList = optsB xs) (hk : xs[k]? = some o) (hf : o.fits) :
    (beN (s.extract (optAt xs k) (optAt xs k + 2)).data.toList : Int) = o.c ∧ beN (s.extract (optAt xs k + 2) (optAt xs k + 2 + 2)).data.toList = o.d.size ∧
      s.extract (optAt xs k + 2 + 2) (optAt xs k + 2 + 2 + o.d.size) = o.d ∧ optAt xs k + 2 + 2 + o.d.size ≤ s.size ∧ optAt xs (k + 1) = optAt xs k + 2 + 2 + o.d.size := by
  obtain ⟨r, hr⟩ := optsB_split hk
  have hl : s.size = (optsB xs).length := by rw [← hs]; simp
  have hd : o.d.data.toList.length = o.d.size := by simp
  have hp : optAt xs k = (optsB (xs.take k)).length := rfl
  have ho := optB_length o
  rw [hr] at hs hl
  rw [List.length_append, List.length_append, ho] at hl
  have hdrop : s.data.toList.drop (optAt xs k) = bigB o.c.toNat 2 ++ (bigB o.d.size 2 ++ (o.d.data.toList ++ r)) := by
    rw [hs, hp, List.drop_left]
    unfold optB
    simp only [List.append_assoc]
  have hdrop2 : s.data.toList.drop (optAt xs k + 2) = bigB o.d.size 2 ++ (o.d.data.toList ++ r) := by
    rw [← List.drop_drop, hdrop, List.drop_left' (bigB_length _ _)]
  have hdrop4 : s.data.toList.drop (optAt xs k + 2 + 2) = o.d.data.toList ++ r := by
    rw [← List.drop_drop, hdrop2, List.drop_left' (bigB_length _ _)]
  refine ⟨?_, ?_, ?_, ?_, ?_⟩
  · rw [ext_toL, hdrop, show optAt xs k + 2 - optAt xs k = 2 by omega, List.take_left' (bigB_length _ _), beN_bigB2 (by have := hf.1; omega)]
    have := hf.1; omega
  · rw [ext_toL, hdrop2, show optAt xs k + 2 + 2 - (optAt xs k + 2) = 2 by omega, List.take_left' (bigB_length _ _), beN_bigB2 (by have := hf.2; omega)]
  · apply ba_of_toList
    rw [ext_toL, hdrop4, show optAt xs k + 2 + 2 + o.d.size - (optAt xs k + 2 + 2) = o.d.size by omega, List.take_left' hd]
  · omega
  · show (optsB (xs.take (k + 1))).length = _
    rw [optsB_take hk, List.length_append, ho, hp]; omega
theorem optAt_end {s : ByteArray} {xs : List Opt} (hs : s.data.toList = optsB xs) : optAt xs xs.length = s.size := by
  unfold optAt; rw [List.take_length, ← hs]; simp
theorem optAt_in {s : ByteArray} {xs : List Opt} (hs : s.data.toList = optsB xs) {k : Nat} (hk : k < xs.length) : optAt xs k < s.size := by
  obtain ⟨r, hr⟩ := optsB_split (List.getElem?_eq_getElem hk)
  have hl : s.size = (optsB xs).length := by rw [← hs]; simp
  rw [hr, List.length_append, List.length_append, optB_length] at hl
  unfold optAt; omega
end Go.Proofs.Ythjkdpphbipgfaa
