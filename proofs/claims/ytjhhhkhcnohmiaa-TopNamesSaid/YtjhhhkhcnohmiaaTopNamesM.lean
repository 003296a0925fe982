/- Plain laws of TopNames: what is told is read as it was; what stands between two names. -/
import Derived.Test.YtjhhhkhcnohmiaaPrint
import Derived.Test.YtjhhhkhcnohmiaaSortM
import Derived.Test.YtjhhhkhcnohmiaaMergeM
import Derived.Test.YtjhhhkhcnohmiaaWalkP
namespace Go.Proofs.Ytjhhhkhcnohmiaa

theorem parse_name {t : Bs} (h : (parseP t).2 = 0) : isName (parseP t).1 = true := by
  unfold parseP at h ⊢
  split at h
  · cases h
  · rename_i h0
    rw [if_neg h0]
    split at h
    · rename_i h1; rw [if_pos h1]; decide
    · rename_i h1
      rw [if_neg h1]
      split at h
      · cases h
      · rename_i h2
        rw [if_neg h2]
        split at h
        · cases h
        · rename_i h3
          rw [if_neg h3]
          show isName (joinP [0] (cutR t).1).1 = true
          have h4 : (joinP [0] (cutR t).1).2 = 0 := by simpa using h3
          unfold joinP at h4 ⊢
          rw [if_neg (by decide)] at h4 ⊢
          split at h4
          · cases h4
          · rename_i h5
            rw [if_neg h5]
            split at h4
            · cases h4
            · rename_i h6
              rw [if_neg h6]
              have hok : ∀ x ∈ (cutR t).1, okL x := fun x hx => (okLb_iff x).1 (by
                have := List.all_eq_true.1 (by simpa using h5) x hx
                exact this)
              exact isName_mk hok (by show (enc (cutR t).1 ++ [0]).length ≤ 255; simp at h6 ⊢; omega)
theorem cut_tell (c : UInt8) (r lab : Bs) (ls : List Bs) : cutG (tellB c ++ r) lab ls = cutG r (lab ++ [c]) ls := by
  unfold tellB
  by_cases h1 : c = 46 ∨ c = 92
  · rw [if_pos h1]
    have hd : digB c = false := by rcases h1 with rfl | rfl <;> decide
    show cutG (92 :: c :: r) lab ls = _
    rw [cutG_cons, if_neg (by decide), if_pos rfl]
    have hb : behindP (c :: r) = (c, 1) := by simp only [behindP]; rw [if_pos hd]
    rw [hb, if_neg (by simp)]
    rfl
  · rw [if_neg h1]
    have h46 : c ≠ 46 := fun e => h1 (.inl e)
    have h92 : c ≠ 92 := fun e => h1 (.inr e)
    by_cases h2 : 33 ≤ c.toNat ∧ c.toNat ≤ 126
    · rw [if_pos h2]
      show cutG (c :: r) lab ls = _
      rw [cutG_cons, if_neg h46, if_neg h92, if_neg (by omega)]
    · rw [if_neg h2]
      have hc := c.toNat_lt
      have e1 : (UInt8.ofNat (48 + c.toNat / 100)).toNat = 48 + c.toNat / 100 := by rw [UInt8.toNat_ofNat']; omega
      have e2 : (UInt8.ofNat (48 + c.toNat / 10 % 10)).toNat = 48 + c.toNat / 10 % 10 := by rw [UInt8.toNat_ofNat']; omega
      have e3 : (UInt8.ofNat (48 + c.toNat % 10)).toNat = 48 + c.toNat % 10 := by rw [UInt8.toNat_ofNat']; omega
      obtain ⟨d, hd⟩ : ∃ d, UInt8.ofNat (48 + c.toNat / 100) = d := ⟨_, rfl⟩
      obtain ⟨e, he⟩ : ∃ d, UInt8.ofNat (48 + c.toNat / 10 % 10) = d := ⟨_, rfl⟩
      obtain ⟨f, hf⟩ : ∃ d, UInt8.ofNat (48 + c.toNat % 10) = d := ⟨_, rfl⟩
      rw [hd] at e1 ⊢
      rw [he] at e2 ⊢
      rw [hf] at e3 ⊢
      have g1 : digB d = true := (digB_iff d).2 (by omega)
      have g2 : digB e = true := (digB_iff e).2 (by omega)
      have g3 : digB f = true := (digB_iff f).2 (by omega)
      have g4 : dig3 d e f = c.toNat := by unfold dig3; omega
      show cutG (92 :: d :: e :: f :: r) lab ls = _
      rw [cutG_cons, if_neg (by decide), if_pos rfl]
      have hb : behindP (d :: e :: f :: r) = (c, 3) := by
        simp only [behindP]
        rw [if_neg (by rw [g1]; simp)]
        rw [if_pos ⟨g2, g3, by omega⟩, g4]
        simp
      rw [hb, if_neg (by simp)]
      rfl
theorem cut_tells : ∀ (x r lab : Bs) (ls : List Bs), cutG (x.flatMap tellB ++ r) lab ls = cutG r (lab ++ x) ls
  | [], r, lab, ls => by simp
  | c :: x, r, lab, ls => by
    rw [List.flatMap_cons, List.append_assoc, cut_tell, cut_tells x]
    simp
theorem cut_prints : ∀ (ms ls : List Bs), (∀ x ∈ ms, x ≠ []) → cutG (printT ms) [] ls = some ([], ls ++ ms)
  | [], ls, _ => by simp [printT, cutG_nil]
  | x :: ms, ls, h => by
    have e : printT (x :: ms) = x.flatMap tellB ++ (46 :: printT ms) := by simp [printT, printB]
    rw [e, cut_tells, cutG_cons, if_pos rfl, List.nil_append, if_neg (h x (by simp)), cut_prints ms _ (fun y hy => h y (by simp [hy]))]
    simp
theorem tellB_pos (c : UInt8) : 1 ≤ (tellB c).length := by
  unfold tellB
  split
  · simp
  · split <;> simp
/-- What is told of a name is read as it. -/
theorem parse_print {n : Bs} (h : isName n = true) : (printP n).2 = 0 ∧ parseP (printP n).1 = (n, 0) := by
  unfold printP
  rw [if_neg (by rw [h]; simp)]
  by_cases h0 : n = [0]
  · rw [if_pos h0, h0]
    exact ⟨rfl, by decide⟩
  · rw [if_neg h0]
    refine ⟨rfl, ?_⟩
    have hn := isName_eq h
    have hlen := ((isName_iff n).1 h).1
    have hok := labs_ok n
    obtain ⟨ls, hls⟩ : ∃ ls, (labs n).1 = ls := ⟨_, rfl⟩
    rw [hls] at hn hok
    show parseP (printT (labs n).1) = _
    rw [hls]
    have hne : ls ≠ [] := fun e => by rw [e] at hn; exact h0 hn
    have hel : (enc ls).length + 1 = n.length := by rw [hn]; simp
    have hpl := printT_len ls
    have hcut : cutR (printT ls) = (ls, true) := by
      unfold cutR
      rw [cut_prints ls [] (fun x hx e => by have := (hok x hx).1; rw [e] at this; simp at this)]
      unfold cutE
      cases ls with
      | nil => exact absurd rfl hne
      | cons a t => simp
    have h46 : printT ls ≠ [46] := by
      cases ls with
      | nil => exact absurd rfl hne
      | cons a t =>
        intro e
        have hl := congrArg List.length e
        have ha := (hok a (by simp)).1
        cases a with
        | nil => simp at ha
        | cons b u =>
          have := tellB_pos b
          simp [printT, printB] at hl
          omega
    unfold parseP
    rw [if_neg (by omega), if_neg h46, hcut, if_neg (by simp)]
    have hj : joinP [0] ls = (n, 0) := by
      unfold joinP
      rw [if_neg (by decide), if_neg (by simp only [Bool.not_eq_false]; exact List.all_eq_true.2 fun x hx => (okLb_iff x).2 (hok x hx)), if_neg (by simp; omega), ← hn]
    show (if (joinP [0] ls).2 ≠ 0 then _ else _) = _
    rw [hj, if_neg (by simp)]
section
variable {α κ : Type} [DecidableEq κ] {key : α → κ} {c : κ → κ → Int}
theorem dd_strict (T : TotC c) : ∀ (S : List α) (pv : Option κ), SrtK key c S → (∀ k, pv = some k → ∀ y ∈ S, ¬ c (key y) k < 0) →
    (ddF key pv S).Pairwise (fun x y => c (key x) (key y) < 0) ∧ (∀ y ∈ ddF key pv S, y ∈ S) ∧ ∀ k, pv = some k → ∀ y ∈ ddF key pv S, c k (key y) < 0
  | [], _, _, _ => ⟨List.Pairwise.nil, fun y hy => hy, fun _ _ y hy => absurd hy List.not_mem_nil⟩
  | y :: l, pv, hS, hp => by
    have hSl : SrtK key c l := (List.pairwise_cons.1 hS).2
    have hSy : ∀ z ∈ l, ¬ c (key z) (key y) < 0 := (List.pairwise_cons.1 hS).1
    obtain ⟨h1, h2, h3⟩ := dd_strict T l (some (key y)) hSl (fun k hk z hz => by cases hk; exact hSy z hz)
    by_cases he : pv = some (key y)
    · have e : ddF key pv (y :: l) = ddF key (some (key y)) l := by
        conv => lhs; unfold ddF
        rw [if_pos he]
      rw [e]
      exact ⟨h1, fun z hz => List.mem_cons_of_mem _ (h2 z hz), fun k hk z hz => by rw [he] at hk; exact h3 k hk z hz⟩
    · have e : ddF key pv (y :: l) = y :: ddF key (some (key y)) l := by
        conv => lhs; unfold ddF
        rw [if_neg he]
      rw [e]
      have hky : ∀ k, pv = some k → c k (key y) < 0 := fun k hk => by
        have a1 := hp k hk y (by simp)
        have a2 := T.anti k (key y)
        have a3 : c k (key y) ≠ 0 := fun h0 => he (by rw [hk, (T.zero _ _).1 h0])
        omega
      refine ⟨List.pairwise_cons.2 ⟨fun z hz => h3 _ rfl z hz, h1⟩, fun z hz => ?_, fun k hk z hz => ?_⟩
      · rcases List.mem_cons.1 hz with rfl | hz
        · simp
        · exact List.mem_cons_of_mem _ (h2 z hz)
      · rcases List.mem_cons.1 hz with rfl | hz
        · exact hky k hk
        · exact T.trans _ _ _ (hky k hk) (h3 _ rfl z hz)
end
theorem lex_mid {α : Type} {c : α → α → Int} (T : TotC c) : ∀ (p x y z : List α), p <+: x → p <+: z → lexC c x y < 0 → lexC c y z < 0 → p <+: y
  | [], _, y, _, _, _, _, _ => List.nil_prefix
  | a :: p, x, y, z, hx, hz, h1, h2 => by
    obtain ⟨x', rfl⟩ := hx
    obtain ⟨z', rfl⟩ := hz
    cases y with
    | nil => simp [lexC] at h1
    | cons b y =>
      simp only [List.cons_append, lexC] at h1 h2
      have ha := T.anti a b
      by_cases h0 : c a b = 0
      · rw [if_pos h0] at h1
        rw [if_pos (by omega)] at h2
        have := (T.zero a b).1 h0
        subst this
        obtain ⟨r, hr⟩ := lex_mid T p _ y _ ⟨x', rfl⟩ ⟨z', rfl⟩ h1 h2
        exact ⟨r, by rw [← hr]; rfl⟩
      · rw [if_neg h0] at h1
        rw [if_neg (by omega)] at h2
        omega
theorem sortN_facts (l : List Bs) : (sortN l).Pairwise (fun x y => cmpL (ris x) (ris y) < 0) ∧ (∀ y ∈ sortN l, isName y = true) ∧ (sortN l).length ≤ l.length := by
  unfold sortN
  have hs := sortK_spec (key := ris) cmpL_tot (l.filter isName)
  obtain ⟨h1, h2, _⟩ := dd_strict (key := ris) cmpL_tot (sortK ris cmpL (l.filter isName)) none hs.1 (fun k hk => by cases hk)
  refine ⟨h1, fun y hy => ?_, ?_⟩
  · exact (List.mem_filter.1 (hs.2.mem (h2 y hy))).2
  · have e1 := ddF_length ris (sortK ris cmpL (l.filter isName)) none
    have e2 := hs.2.len
    have e3 := List.length_filter_le isName l
    omega
/-- What stands between two names lies within what they have in common. -/
theorem com_mid {a n b : Bs} (ha : isName a = true) (hn : isName n = true) (hb : isName b = true) (h1 : cmpL (ris a) (ris n) < 0) (h2 : cmpL (ris n) (ris b) < 0) : withinB n (comB a b) = true := by
  rw [within_low hn (com_name ha hb)]
  obtain ⟨⟨k1, k2⟩, _⟩ := com_low ha hb
  have e1 := List.reverse_prefix.2 k1
  have e2 := List.reverse_prefix.2 k2
  rw [← ris_low ha] at e1
  rw [← ris_low hb] at e2
  have := lex_mid cmpS_tot _ _ _ _ e1 e2 h1 h2
  rw [ris_low hn] at this
  exact List.reverse_prefix.1 this
theorem less_ris {a b : Bs} (ha : isName a = true) (hb : isName b = true) (h : cmpL (ris a) (ris b) < 0) : lessP a b = true := by
  unfold lessP
  rw [ha, hb]
  simpa using h
end Go.Proofs.Ytjhhhkhcnohmiaa
