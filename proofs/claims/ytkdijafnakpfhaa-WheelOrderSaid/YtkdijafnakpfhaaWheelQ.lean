/- What Pop takes, in plain words. Conditions: none. -/
import Derived.Test.YtkdijafnakpfhaaWheelY
namespace Go.Proofs.Ytkdijafnakpfhaa

theorem drop_perm {v : List Th} (hn : (v.map Th.id).Nodup) {x : Th} (hx : x ∈ v) : (x :: dropV v x.id).Perm v := by
  induction v with
  | nil => cases hx
  | cons y v ih =>
    rw [List.map_cons, List.nodup_cons] at hn
    rcases List.mem_cons.1 hx with rfl | hx
    · have : dropV (x :: v) x.id = v := by
        unfold dropV
        rw [List.filter_cons]
        simp only [beq_self_eq_true, Bool.not_true, Bool.false_eq_true, if_false]
        rw [List.filter_eq_self]
        intro z hz
        have : z.id ≠ x.id := fun e => hn.1 (List.mem_map.2 ⟨z, hz, e⟩)
        simpa using this
      rw [this]
    · have hne : y.id ≠ x.id := fun e => hn.1 (List.mem_map.2 ⟨x, hx, e.symm⟩)
      have : dropV (y :: v) x.id = y :: dropV v x.id := by
        unfold dropV
        rw [List.filter_cons]
        simp [hne]
      rw [this]
      exact (List.Perm.swap y x _).trans (List.Perm.cons y (ih hn.2 hx))
structure Popped (v : List Th) (now : Int) (P : List Th × List Th) : Prop where
  perm : (P.1 ++ P.2).Perm v
  due : ∀ x ∈ P.1, x.t ≤ now
  late : ∀ x ∈ P.2, now < x.t
  sort : P.1.Pairwise fun a b => a.t ≤ b.t
theorem Th.le.t {a b : Th} (h : a.le b) : a.t ≤ b.t := by unfold Th.le at h; omega
theorem popped (now : Int) : ∀ (n : Nat) (v : List Th), v.length = n → (v.map Th.id).Nodup → Popped v now (popV v.length v now) := by
  intro n
  induction n with
  | zero =>
    intro v hv _
    have : v = [] := List.eq_nil_of_length_eq_zero hv
    subst this
    exact ⟨List.Perm.refl _, (fun x hx => nomatch hx), (fun x hx => nomatch hx), List.Pairwise.nil⟩
  | succ n ih =>
    intro v hv hn
    cases hm : minV v with
    | none =>
      have := minV_none.1 hm
      subst this
      cases hv
    | some x =>
      obtain ⟨h1, h2⟩ := minV_mem hm
      by_cases ht : x.t ≤ now
      · rw [popV_due hm hn ht]
        have hp := drop_perm hn h1
        have hl := hp.length_eq
        have hnd : ((dropV v x.id).map Th.id).Nodup := by
          have := (hp.map Th.id).nodup_iff.2 hn
          rw [List.map_cons, List.nodup_cons] at this
          exact this.2
        have k := ih (dropV v x.id) (by simp at hl; omega) hnd
        have hmem : ∀ y, y ∈ dropV v x.id → y ∈ v := fun y hy => hp.subset (List.mem_cons_of_mem _ hy)
        refine ⟨(List.Perm.cons x k.perm).trans hp, fun y hy => ?_, k.late, ?_⟩
        · rcases List.mem_cons.1 hy with rfl | hy
          · exact ht
          · exact k.due y hy
        · refine List.Pairwise.cons (fun y hy => ?_) k.sort
          exact (h2 y (hmem y (k.perm.subset (List.mem_append_left _ hy)))).t
      · rw [popV_late hm ht]
        refine ⟨List.Perm.refl _, (fun x hx => nomatch hx), fun y hy => ?_, List.Pairwise.nil⟩
        have := (h2 y hy).t
        omega
/-- What has come, and what is left, of things added by their places. -/
structure Ord (ts : List Int) (gs v : List Th) (now : Int) : Prop where
  perm : ((gs ++ v).map Th.id).Perm ((List.range ts.length).map Int.ofNat)
  right : ∀ x ∈ gs ++ v, ∃ j : Nat, x.id = (j : Int) ∧ ts[j]? = some x.t
  due : ∀ x ∈ gs, x.t ≤ now
  late : gs = [] ∨ ∀ x ∈ v, now < x.t
  sort : gs.Pairwise fun a b => a.t ≤ b.t
theorem Ord.next {ts : List Int} {gs v : List Th} {now t : Int} (h : Ord ts gs v now) (ht : now ≤ t) (hn : (v.map Th.id).Nodup) :
    Ord ts (gs ++ (popV v.length v t).1) (popV v.length v t).2 t ∧ ∀ x ∈ (popV v.length v t).2, t < x.t := by
  have k := popped t v.length v rfl hn
  have hp : (gs ++ (popV v.length v t).1 ++ (popV v.length v t).2).Perm (gs ++ v) := by
    rw [List.append_assoc]
    exact List.Perm.append_left gs k.perm
  refine ⟨⟨(hp.map Th.id).trans h.perm, fun x hx => h.right x (hp.subset hx), fun x hx => ?_, .inr k.late, ?_⟩, k.late⟩
  · rcases List.mem_append.1 hx with hx | hx
    · have := h.due x hx
      omega
    · exact k.due x hx
  · rw [List.pairwise_append]
    refine ⟨h.sort, k.sort, fun a ha b hb => ?_⟩
    rcases h.late with e | e
    · rw [e] at ha
      cases ha
    · have := e b (k.perm.subset (List.mem_append_left _ hb))
      have := h.due a ha
      omega
theorem Ord.len {ts : List Int} {gs v : List Th} {now : Int} (h : Ord ts gs v now) : gs.length + v.length = ts.length := by
  have := h.perm.length_eq
  simpa using this
theorem Ord.nodup {ts : List Int} {gs v : List Th} {now : Int} (h : Ord ts gs v now) : ((gs ++ v).map Th.id).Nodup := by
  refine h.perm.nodup_iff.2 ?_
  rw [List.Nodup, List.pairwise_map]
  exact List.nodup_range.imp fun {a b} hne e => hne (Int.ofNat.inj e)
/-- The things, added by their places. -/
def thing (ts : List Int) (k : Nat) : List Th := ((List.range k).zip ts).map fun p => ⟨(p.1 : Int), p.2⟩
theorem thing_succ {ts : List Int} {k : Nat} {t : Int} (h : ts[k]? = some t) : addV (thing ts k) (k : Int) t = thing ts (k + 1) := by
  have hk : k < ts.length := (List.getElem?_eq_some_iff.1 h).1
  have hno : hasId (thing ts k) (k : Int) = false := by
    rw [Bool.eq_false_iff]
    intro hx
    obtain ⟨x, hx, e⟩ := (hasId_iff _ _).1 hx
    unfold thing at hx
    obtain ⟨p, hp, rfl⟩ := List.mem_map.1 hx
    have := List.mem_range.1 (List.of_mem_zip hp).1
    simp only at e
    omega
  have hs : thing ts (k + 1) = thing ts k ++ [⟨(k : Int), t⟩] := by
    unfold thing
    have e1 : ts = ts.take k ++ ts.drop k := (List.take_append_drop k ts).symm
    have e2 : ts.drop k = t :: ts.drop (k + 1) := by
      rw [List.drop_eq_getElem_cons hk]
      congr 1
      exact (List.getElem?_eq_some_iff.1 h).2
    have z1 : (List.range (k + 1)).zip ts = (List.range k).zip (ts.take k) ++ [(k, t)] := by
      conv => lhs; rw [e1, e2]
      rw [List.range_succ, List.zip_append (by simp; omega)]
      simp
    have z2 : (List.range k).zip ts = (List.range k).zip (ts.take k) := by
      conv => lhs; rw [e1]
      rw [show List.range k = List.range k ++ [] by simp, List.zip_append (by simp; omega)]
      simp
    rw [z1, z2, List.map_append]
    rfl
  unfold addV
  rw [hno, if_neg (by simp), hs]
theorem thing_not {ts : List Int} {k : Nat} (n : Nat) (h : k ≤ n) : hasId (thing ts k) (n : Int) = false := by
  rw [Bool.eq_false_iff]
  intro hx
  obtain ⟨x, hx, e⟩ := (hasId_iff _ _).1 hx
  unfold thing at hx
  obtain ⟨p, hp, rfl⟩ := List.mem_map.1 hx
  have := List.mem_range.1 (List.of_mem_zip hp).1
  simp only at e
  omega
theorem ord_start (ts : List Int) (now : Int) : Ord ts [] (thing ts ts.length) now := by
  refine ⟨?_, fun x hx => ?_, (fun x hx => nomatch hx), .inl rfl, List.Pairwise.nil⟩
  · have : (thing ts ts.length).map Th.id = (List.range ts.length).map Int.ofNat := by
      unfold thing
      rw [List.map_map]
      have : (Th.id ∘ fun p : Nat × Int => (⟨(p.1 : Int), p.2⟩ : Th)) = (Int.ofNat ∘ Prod.fst) := by funext p; rfl
      rw [this, ← List.map_map, List.map_fst_zip (by simp)]
    rw [List.nil_append, this]
  · rw [List.nil_append] at hx
    unfold thing at hx
    obtain ⟨p, hp, rfl⟩ := List.mem_map.1 hx
    obtain ⟨j, hj, he⟩ := List.mem_iff_getElem.1 hp
    refine ⟨p.1, rfl, ?_⟩
    rw [List.getElem_zip] at he
    subst he
    simp at hj ⊢
end Go.Proofs.Ytkdijafnakpfhaa
