/- The reverse name of an address and its mixtures: plain. No program in sight. Conditions: none. -/
import Derived.Test.YtenmhfhnhfhooaaDoorHostO
import Derived.Test.YtenmhfhnhfhooaaDoorMixLaw2
import Derived.Test.YtenmhfhnhfhooaaDoorWithin
namespace Go.Proofs.YtenmhfhnhfhooaaDoor

theorem low_dig {c d : UInt8} (hd : d.toNat < 65) (h : lowB c = lowB d) : c = d := by
  have h2 := congrArg UInt8.toNat h
  rw [lowB_toNat, lowB_toNat] at h2
  apply UInt8.toNat_inj.1
  split at h2 <;> split at h2 <;> omega
theorem fold_dig : ∀ {x y : Bs}, (∀ d ∈ y, d.toNat < 65) → foldB x = foldB y → x = y
  | [], [], _, _ => rfl
  | [], _ :: _, _, h => by simp [foldB] at h
  | _ :: _, [], _, h => by simp [foldB] at h
  | c :: x, d :: y, hy, h => by
    simp only [foldB, List.map_cons, List.cons.injEq] at h
    rw [low_dig (hy d (by simp)) h.1, fold_dig (fun e he => hy e (by simp [he])) h.2]
theorem folds_dig : ∀ {xs ys : List Bs}, (∀ y ∈ ys, ∀ d ∈ y, d.toNat < 65) → xs.map foldB = ys.map foldB → xs = ys
  | [], [], _, _ => rfl
  | [], _ :: _, _, h => by simp at h
  | _ :: _, [], _, h => by simp at h
  | x :: xs, y :: ys, hy, h => by
    simp only [List.map_cons, List.cons.injEq] at h
    rw [fold_dig (hy y (by simp)) h.1, folds_dig (fun e he => hy e (by simp [he])) h.2]
theorem enc_fold_len : ∀ ls : List Bs, (enc (ls.map foldB)).length = (enc ls).length
  | [] => rfl
  | x :: xs => by rw [List.map_cons, enc_length_cons, enc_length_cons, foldB_length, enc_fold_len xs]
theorem pos_fold (ls : List Bs) (k : Nat) : pos (ls.map foldB) k = pos ls k := by
  unfold pos; rw [← List.map_take, enc_fold_len]
theorem lp_count (l : Bs) : ∀ i, i ≤ l.length → (lp l i).length = (l.take i).countP letB
  | 0, _ => by simp [lp]
  | i + 1, h => by
    have ih := lp_count l i (by omega)
    have hi : i < l.length := by omega
    have hat : at0 l i = l[i] := at0_eq (List.getElem?_eq_getElem hi)
    rw [List.take_succ_eq_append_getElem hi, List.countP_append, ← ih]
    cases hb : letB l[i]
    · rw [lp_no (by rw [hat]; exact hb)]; simp [List.countP_cons, hb]
    · rw [lp_yes (by rw [hat]; exact hb)]; simp [List.countP_cons, hb]
theorem dig_small (u : Nat) (h : u < 256) : ∀ d ∈ Lib.decDigits u, d.toNat < 65 := by
  have : ∀ u : Fin 256, ∀ d ∈ Lib.decDigits u.1, d.toNat < 65 := by decide +kernel
  exact this ⟨u, h⟩
theorem nums_small (a : Nat) : ∀ y ∈ (numsA a 4).reverse, ∀ d ∈ y, d.toNat < 65 := by
  intro y hy
  rw [List.mem_reverse] at hy
  obtain ⟨i, _, rfl⟩ := List.mem_map.1 hy
  exact dig_small _ (numA_lt a i)
theorem nums_len (a : Nat) : ∀ y ∈ (numsA a 4).reverse, 1 ≤ y.length ∧ y.length ≤ 3 := by
  intro y hy
  rw [List.mem_reverse] at hy
  obtain ⟨i, _, rfl⟩ := List.mem_map.1 hy
  have := digits_len (numA_lt a i)
  omega
theorem labsA_ok (a : Nat) : ∀ x ∈ labsA a, okL x ∧ x.length ≤ 7 := by
  intro x hx
  unfold labsA at hx
  unfold okL
  rcases List.mem_append.1 hx with h | h
  · have := nums_len a x h; omega
  · simp at h
    rcases h with rfl | rfl <;> simp
theorem enc_len_le : ∀ (ls : List Bs) (m : Nat), (∀ x ∈ ls, x.length ≤ m) → (enc ls).length ≤ (m + 1) * ls.length
  | [], _, _ => by simp [enc]
  | x :: xs, m, h => by
    have h1 := h x (by simp)
    have h2 := enc_len_le xs m (fun y hy => h y (by simp [hy]))
    rw [enc_length_cons, List.length_cons, Nat.mul_add]
    omega
theorem joinA {ls : List Bs} (h : ∀ x ∈ ls, okL x ∧ x.length ≤ 7) (hl : ls.length ≤ 6) : joinP [0] ls = (mk ls, 0) ∧ (mk ls).length ≤ 49 := by
  have h1 := enc_len_le ls 7 (fun x hx => (h x hx).2)
  have h2 : (enc ls).length ≤ 48 := by omega
  constructor
  · unfold joinP
    rw [if_neg (by decide), if_neg, if_neg (by simp; omega)]
    · rfl
    · rw [Bool.not_eq_false, List.all_eq_true]
      exact fun x hx => (okLb_iff x).2 (h x hx).1
  · unfold mk; rw [List.length_append]; simp; omega
theorem nameA_eq (a : Nat) : nameA a = mk (labsA a) := by
  unfold nameA; rw [(joinA (labsA_ok a) (by rw [labsA_length]; decide)).1]
theorem nameA_len (a : Nat) : (nameA a).length ≤ 49 := by
  rw [nameA_eq]; exact (joinA (labsA_ok a) (by rw [labsA_length]; decide)).2
theorem nameA_name (a : Nat) : isName (nameA a) = true := by
  have := nameA_len a
  rw [nameA_eq] at this ⊢
  exact isName_mk (fun x hx => (labsA_ok a x hx).1) (by omega)
theorem nameA_labs (a : Nat) : labs (nameA a) = (labsA a, [0]) := by
  rw [nameA_eq]; exact labs_mk (fun x hx => (labsA_ok a x hx).1)
theorem drop_ok (a j : Nat) : ∀ x ∈ (labsA a).drop j, okL x ∧ x.length ≤ 7 := fun x hx => labsA_ok a x (List.mem_of_mem_drop hx)
theorem zoneA_eq (a k : Nat) : zoneA a k = (mk ((labsA a).drop (4 - k)), 0) := by
  unfold zoneA; rw [(joinA (drop_ok a _) (by rw [List.length_drop, labsA_length]; omega)).1]

section
variable {a d : Nat}
theorem mixA_fold : (labs (mixL d (nameA a))).1.map foldB = (labsA a).map foldB := by
  have h1 := congrArg Prod.fst (labs_fold (mixL d (nameA a)))
  have h2 := congrArg Prod.fst (labs_fold (nameA a))
  simp only at h1 h2
  rw [← h1, mix_fold (nameA_name a), h2, nameA_labs]
theorem mixA_namL : namL (mixL d (nameA a)) = (labs (mixL d (nameA a))).1 := namL_yes (mix_name (nameA_name a))
theorem mixA_len : (namL (mixL d (nameA a))).length = 6 := by
  have := congrArg List.length (mixA_fold (a := a) (d := d))
  rw [List.length_map, List.length_map, labsA_length] at this
  rw [mixA_namL]; exact this
theorem mixA_take : (namL (mixL d (nameA a))).take 4 = (numsA a 4).reverse := by
  rw [mixA_namL]
  refine folds_dig (nums_small a) ?_
  rw [List.map_take, mixA_fold, ← List.map_take]
  congr 1
theorem mixA_same : sameB (mixL d (nameA a)) (nameA a) = true := by
  unfold sameB
  rw [mixL_length, mix_name (nameA_name a), nameA_name, mix_fold (nameA_name a)]
  simp
theorem mixA_within (k : Nat) (hk : k ≤ 4) : withinB (mixL d (nameA a)) (zoneA a k).1 = true := by
  rw [zoneA_eq]
  show withinB (mixL d (nameA a)) (mk ((labsA a).drop (4 - k))) = true
  have hz := joinA (drop_ok a (4 - k)) (by rw [List.length_drop, labsA_length]; omega)
  have hzn : isName (mk ((labsA a).drop (4 - k))) = true := isName_mk (fun x hx => (drop_ok a _ x hx).1) (by have := hz.2; omega)
  have hdrop := drop_pos (nameA a) (4 - k)
  rw [nameA_labs] at hdrop
  simp only at hdrop
  have hpl : pos (labsA a) (4 - k) ≤ (nameA a).length := by
    have h1 := pos_le (labsA a) (4 - k)
    have h2 : (nameA a).length = (enc (labsA a)).length + 1 := by rw [nameA_eq]; simp [mk]
    omega
  have hlen : (mk ((labsA a).drop (4 - k))).length + pos (labsA a) (4 - k) = (nameA a).length := by
    have h3 := congrArg List.length hdrop
    rw [List.length_drop] at h3
    unfold mk
    omega
  have hmore : (mixL d (nameA a)).length - (mk ((labsA a).drop (4 - k))).length = pos (labsA a) (4 - k) := by rw [mixL_length]; omega
  unfold withinB
  rw [mix_name (nameA_name a), hzn, hmore]
  have hle : decide ((mk ((labsA a).drop (4 - k))).length ≤ (mixL d (nameA a)).length) = true := by rw [mixL_length]; simp; omega
  have hbeg : begL (pos (labsA a) (4 - k)) (endsL (mixL d (nameA a))) = true := by
    unfold begL
    rw [Bool.or_eq_true]
    by_cases h0 : 4 - k = 0
    · left; rw [h0]; simp [pos_zero]
    · right
      rw [decide_eq_true_iff]
      unfold endsL
      refine List.mem_map.2 ⟨4 - k - 1, ?_, ?_⟩
      · rw [List.mem_range, ← mixA_namL, mixA_len]; omega
      · rw [← pos_fold, mixA_fold, pos_fold, show 4 - k - 1 + 1 = 4 - k by omega]
  have hfold : foldB ((mixL d (nameA a)).drop (pos (labsA a) (4 - k))) = foldB (mk ((labsA a).drop (4 - k))) := by
    have : foldB ((mixL d (nameA a)).drop (pos (labsA a) (4 - k))) = (foldB (mixL d (nameA a))).drop (pos (labsA a) (4 - k)) := by unfold foldB; rw [List.map_drop]
    rw [this, mix_fold (nameA_name a)]
    have h5 : (foldB (nameA a)).drop (pos (labsA a) (4 - k)) = foldB ((nameA a).drop (pos (labsA a) (4 - k))) := by unfold foldB; rw [List.map_drop]
    rw [h5, hdrop]; rfl
  rw [hle, hbeg, hfold]
  simp
theorem sum0 : ∀ {l : List Nat}, (∀ n ∈ l, n = 0) → l.sum = 0
  | [], _ => rfl
  | n :: l, h => by rw [List.sum_cons, h n (by simp), sum0 (fun m hm => h m (by simp [hm]))]
theorem enc_count : ∀ ls : List Bs, (∀ x ∈ ls, x.length ≤ 63) → (enc ls).countP letB = (ls.map (·.countP letB)).sum
  | [], _ => by simp [enc]
  | x :: xs, h => by
    have h1 := enc_count xs (fun y hy => h y (by simp [hy]))
    have h2 := h x (by simp)
    have hl : letB (UInt8.ofNat x.length) = false := let_small (by rw [UInt8.toNat_ofNat']; omega)
    rw [List.map_cons, List.sum_cons, ← h1]
    simp only [enc, List.countP_cons, List.countP_append, hl]
    simp
theorem nameA_letters : (letL (nameA a)).length = 10 := by
  unfold letL
  rw [if_pos (nameA_name a), lp_count _ _ (Nat.le_refl _), List.take_length, nameA_eq]
  unfold mk
  rw [List.countP_append, enc_count _ (fun x hx => by have := (labsA_ok a x hx).2; omega)]
  unfold labsA
  rw [List.map_append, List.sum_append]
  have h0 : ((numsA a 4).reverse.map (·.countP letB)).sum = 0 := by
    apply sum0
    intro n hn
    obtain ⟨y, hy, rfl⟩ := List.mem_map.1 hn
    rw [List.countP_eq_zero]
    intro c hc
    have := nums_small a y hy c hc
    have hdg : ∀ u : Fin 256, ∀ c ∈ Lib.decDigits u.1, letB c = false := by decide +kernel
    rw [List.mem_reverse] at hy
    obtain ⟨i, _, rfl⟩ := List.mem_map.1 hy
    rw [hdg ⟨numA a i, numA_lt a i⟩ c hc]
    simp
  rw [h0]
  decide
end
theorem mask10 (a : Nat) : a &&& maskN 10 = a % 1024 := by
  show a &&& 2 ^ 10 - 1 = a % 1024
  rw [Nat.and_two_pow_sub_one_eq_mod]
end Go.Proofs.YtenmhfhnhfhooaaDoor
