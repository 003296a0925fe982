/- Data of records, written one behind the other; a slice of types that came in. Conditions: none. -/
import Derived.Test.YtkjefohkhdadaaaRdBack
namespace Go.Proofs.Ytkjefohkhdadaaa
open Go.ChangeShapes Go.WideShapes Go.ChangeAt Go.RowKit

set_option maxRecDepth 100000 in
theorem open_u16s {H : Type} {enc : TypeId × Value → H} {W : World} {base : Nat} {r : Reach} {b0 : Nat} {spare : Nat → Bool} {held : Bool} {v : Value} {d : DataW H} {p : List MemPlace}
    (hv : Value.okWide Try.prog W r b0 100 v) (h : DataW.Trod enc Try.prog W base spare held 100 v d p) :
    ∃ (A : Option Addr) (xs : List Int) (c : Nat), v = .slice A xs.length c ∧ TTab W A (xs.map (Value.int .u16)) ∧ (∀ x ∈ xs, 0 ≤ x ∧ x ≤ 65535) ∧ xs.length ≤ c ∧ c ≤ maxLen := by
  obtain ⟨a0, len0, cap0, rfl⟩ := okWide_slice Try.underlying100 hv
  obtain ⟨fuel, hf⟩ := h
  have hc : Try.prog.cellsOf 47 = 1 := by kernel_rfl
  rcases open_ints Try.underlying100 Try.underlying47 hc hf with ⟨e1, _⟩ | ⟨a, len, cap, zs, e1, _, hl, hm, hzl, _, hcell, hwf⟩
  · simp [Value.cells] at e1
    obtain ⟨rfl, rfl, rfl⟩ := e1
    exact ⟨none, [], 0, rfl, fun hx => absurd hx (by simp), fun _ hx => absurd hx (by simp), Nat.le_refl _, Nat.zero_le _⟩
  · simp [Value.cells] at e1
    obtain ⟨rfl, rfl, rfl⟩ := e1
    have hlz : len0 ≤ zs.length := by rw [hzl]; split <;> omega
    have hbd : ∀ n ∈ zs, 0 ≤ n ∧ n ≤ 65535 := fun n hn => wf_u16 (hwf n hn)
    refine ⟨some a, zs.take len0, cap0, by simp [Nat.min_eq_left hlz], fun hp => ?_, fun x hx => hbd x (List.mem_of_mem_take hx), by simp; omega, hm⟩
    have hp0 : 0 < zs.length := by simp at hp; omega
    obtain ⟨b, off, rfl, hcl⟩ := ints_at hcell hp0
    refine ⟨b, off, rfl, World.block_lt_of_cell? _ _ (hcl 0 hp0), fun j u hu => ?_⟩
    rw [List.getElem?_map] at hu
    cases hz : (zs.take len0)[j]? with
    | none => rw [hz] at hu; cases hu
    | some n =>
      rw [hz] at hu
      have hu2 : Value.int .u16 n = u := Option.some.inj hu
      subst hu2
      have hj := (List.getElem?_eq_some_iff.1 hz).1
      have hjz : j < zs.length := by simp at hj; omega
      rw [hcl j hjz]
      rw [List.getElem?_take_of_lt (by simp at hj; omega)] at hz
      rw [List.getD_eq_getElem?_getD, hz]
      rfl

/-- Where the j-th part begins. -/
def posAt (es : List (Nat × Nat)) (q j : Nat) : Nat := match es[j]? with
  | some e => e.1
  | none => q
/-- Data that lie one behind the other. -/
def Laid (ts : List Int) (ds : List ByteArray) (l : Bs) (es : List (Nat × Nat)) : Prop :=
  posAt es l.length 0 = 0 ∧ ∀ j e, es[j]? = some e → e.2 < ts.length ∧ ∃ t d, ts[e.2]? = some t ∧ ds[e.2]? = some d ∧ e.1 ≤ posAt es l.length (j + 1) ∧ posAt es l.length (j + 1) ≤ l.length ∧
    readD t (l.take (e.1 + (posAt es l.length (j + 1) - e.1))) e.1 (posAt es l.length (j + 1) - e.1) = some d.data.toList
theorem laid_nil (ts : List Int) (ds : List ByteArray) : Laid ts ds [] [] := ⟨rfl, fun j e h => by simp at h⟩
theorem posAt_snoc {es : List (Nat × Nat)} {e : Nat × Nat} {q q' : Nat} (h : e.1 = q) {j : Nat} (hj : j ≤ es.length) : posAt (es ++ [e]) q' j = posAt es q j := by
  unfold posAt
  by_cases hl : j < es.length
  · rw [List.getElem?_append_left hl]
    rw [List.getElem?_eq_getElem hl]
  · have : j = es.length := by omega
    subst this
    rw [List.getElem?_append_right (Nat.le_refl _), Nat.sub_self, List.getElem?_eq_none (Nat.le_refl _)]
    simpa using h
theorem written_pre {t : Int} {d l l' : Bs} (h : Written t d l l') : ∃ x, l' = l ++ x := by
  unfold Written at h
  cases hq : lookN t d with
  | none => rw [hq] at h; exact ⟨_, h⟩
  | some p =>
    obtain ⟨a, ns, b⟩ := p
    rw [hq] at h
    obtain ⟨E, h1, _⟩ := h
    exact ⟨_, h1⟩
theorem laid_more {ts : List Int} {ds : List ByteArray} {l l' : Bs} {es : List (Nat × Nat)} (h : Laid ts ds l es) {i : Nat} {t : Int} {d : ByteArray} (ht : ts[i]? = some t) (hd : ds[i]? = some d)
    (hok : okD t d.data.toList = true) (hw : Written t d.data.toList l l') : Laid ts ds l' (es ++ [(l.length, i)]) := by
  obtain ⟨x, hx⟩ := written_pre hw
  have hb := back_law hok hw
  refine ⟨by rw [posAt_snoc (q := l.length) rfl (Nat.zero_le _)]; exact h.1, fun j e he => ?_⟩
  by_cases hj : j < es.length
  · rw [List.getElem?_append_left hj] at he
    rw [posAt_snoc (q := l.length) rfl (show j + 1 ≤ es.length by omega)]
    obtain ⟨h1, t1, d1, h2, h3, h4, h5, h6⟩ := h.2 j e he
    refine ⟨h1, t1, d1, h2, h3, h4, by rw [hx, List.length_append]; omega, ?_⟩
    rw [hx, List.take_append_of_le_length (by omega)]
    exact h6
  · have hje : j = es.length := by
      have := (List.getElem?_eq_some_iff.1 he).1
      simp at this; omega
    subst hje
    rw [List.getElem?_append_right (Nat.le_refl _), Nat.sub_self] at he
    have he2 : e = (l.length, i) := by simpa using he.symm
    subst he2
    have hp : posAt (es ++ [(l.length, i)]) l'.length (es.length + 1) = l'.length := by
      unfold posAt
      rw [List.getElem?_eq_none (by simp)]
    rw [hp]
    exact ⟨(List.getElem?_eq_some_iff.1 ht).1, t, d, ht, hd, hb.1, Nat.le_refl _, hb.2⟩
theorem laid_end (es : List (Nat × Nat)) (q : Nat) : posAt es q es.length = q := by
  unfold posAt
  rw [List.getElem?_eq_none (Nat.le_refl _)]
theorem posAt_at {es : List (Nat × Nat)} {q j : Nat} {e : Nat × Nat} (h : es[j]? = some e) : posAt es q j = e.1 := by
  unfold posAt
  rw [h]
theorem written_len2 {t : Int} {d l l' : Bs} (h : Written t d l l') : l'.length ≤ l.length + d.length := by
  unfold Written at h
  cases hq : lookN t d with
  | none =>
    rw [hq] at h
    dsimp only at h
    rw [h]; simp
  | some p =>
    obtain ⟨a, ns, b⟩ := p
    rw [hq] at h
    obtain ⟨E, h1, _, h3⟩ := h
    obtain ⟨f, hf⟩ : ∃ f, formN t = some f := by
      cases hf : formN t with
      | some f => exact ⟨f, rfl⟩
      | none => unfold lookN at hq; rw [hf] at hq; cases hq
    have hcl := cutN_len (look_cut hf hq)
    have h4 := congrArg List.length hcl.1
    simp only [List.length_append] at h4
    rw [h1]
    simp only [List.length_append]
    omega
theorem readD_le {t : Int} {l d : Bs} {a n : Nat} (h : readD t l a n = some d) : d.length ≤ 4096 := by
  have h := readD_ok h
  unfold okD at h
  rw [Bool.and_eq_true] at h
  simpa using h.1
/-- The names of data are names. -/
theorem look_names {t : Int} {l : Bs} {p : Bs × List Bs × Bs} (h : lookN t l = some p) : ∀ n ∈ p.2.1, isName n = true := by
  obtain ⟨f, hf⟩ : ∃ f, formN t = some f := by
    cases hf : formN t with
    | some f => exact ⟨f, rfl⟩
    | none => unfold lookN at h; rw [hf] at h; cases h
  exact (cutN_len (look_cut hf h)).2.2.2.2
def ats (es : List (Nat × Nat)) : List Value := es.map fun e => .int .i64 (e.1 : Int)
def kepts (es : List (Nat × Nat)) : List Value := es.map fun e => .int .i64 (e.2 : Int)
theorem ats_at {es : List (Nat × Nat)} {j : Nat} {e : Nat × Nat} (h : es[j]? = some e) : (ats es)[j]? = some (.int .i64 (e.1 : Int)) := by unfold ats; rw [List.getElem?_map, h]; rfl
theorem kepts_at {es : List (Nat × Nat)} {j : Nat} {e : Nat × Nat} (h : es[j]? = some e) : (kepts es)[j]? = some (.int .i64 (e.2 : Int)) := by unfold kepts; rw [List.getElem?_map, h]; rfl
end Go.Proofs.Ytkjefohkhdadaaa
