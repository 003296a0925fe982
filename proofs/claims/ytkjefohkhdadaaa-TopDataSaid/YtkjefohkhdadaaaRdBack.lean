/- Right data that are written are read as they were; the walk of hardtacklaw04.RdataBack. Conditions: none. -/
import Derived.Test.YtkjefohkhdadaaaLives04
namespace Go.Proofs.Ytkjefohkhdadaaa
open Go.RowKit Go.Lib

theorem rawM_at {l : Bs} {a : Nat} {x y : Bs} (h : l.drop a = x ++ y) (ha : a ≤ l.length) {k : Nat} (hk : x.length = k) : rawM l (a, false) k = (x, (a + k, false)) := by
  have hl : l.length = a + (x.length + y.length) := by
    have := congrArg List.length h
    rw [List.length_drop, List.length_append] at this
    omega
  unfold rawM
  dsimp only
  rw [if_neg (by decide), if_pos (by omega), h, ← hk, List.take_left]
theorem namesM_chain {l : Bs} {q : Nat} : ∀ {ns : List Bs} {p : Nat}, Chain l p (ns.map fun n => (labs n).1) q → (∀ n ∈ ns, isName n = true) → namesM l ns.length (p, false) = (ns.flatten, (q, false))
  | [], p, h, _ => by cases h; rfl
  | n :: ns, p, ⟨m, hE, hc⟩, hn => by
    have h1 := hn n (by simp)
    have hr := nread_enc hE (by rw [mk_labs h1]; exact ((isName_iff _).1 h1).1)
    rw [mk_labs h1] at hr
    have hm : nameM l (p, false) = (n, (m, false)) := by
      unfold nameM
      dsimp only
      rw [if_neg (by decide), hr]
      dsimp only
      rw [if_pos h1]
      rfl
    show ((nameM l (p, false)).1 ++ (namesM l ns.length (nameM l (p, false)).2).1, (namesM l ns.length (nameM l (p, false)).2).2) = _
    rw [hm, namesM_chain hc fun x hx => hn x (by simp [hx])]
    rfl
theorem look_form {t : Int} {d : Bs} (hok : okD t d = true) (h : lookN t d = none) : formN t = none := by
  cases hf : formN t with
  | none => rfl
  | some f =>
    exfalso
    have hne : t ≠ 1 ∧ t ≠ 28 ∧ t ≠ 16 := by
      unfold formN at hf
      refine ⟨fun e => ?_, fun e => ?_, fun e => ?_⟩ <;> (subst e; simp at hf)
    unfold okD at hok
    rw [if_neg hne.1, if_neg hne.2.1, if_neg hne.2.2, hf, Bool.and_eq_true] at hok
    unfold lookN at h
    rw [hf] at h
    dsimp only at h hok
    rw [if_pos (by simpa using hok.1)] at h
    rw [h] at hok
    exact absurd hok.2 (by decide)
theorem back_law {t : Int} {d l l' : Bs} (hok : okD t d = true) (hw : Written t d l l') : l.length ≤ l'.length ∧ readD t (l'.take (l.length + (l'.length - l.length))) l.length (l'.length - l.length) = some d := by
  unfold Written at hw
  cases hq : lookN t d with
  | none =>
    rw [hq] at hw
    dsimp only at hw
    have hf := look_form hok hq
    have hl : l'.length = l.length + d.length := by rw [hw]; simp
    refine ⟨by omega, ?_⟩
    rw [List.take_of_length_le (by omega)]
    have hM : readM t l' l.length (l'.length - l.length) = (d, (l.length + (l'.length - l.length), false)) := by
      unfold readM
      rw [hf]
      dsimp only
      exact rawM_at (x := d) (y := []) (by rw [hw, List.drop_left, List.append_nil]) (by omega) (by omega)
    unfold readD
    rw [hM]
    dsimp only
    rw [if_pos ⟨rfl, by omega, hok⟩]
  | some p =>
    obtain ⟨a, ns, b⟩ := p
    rw [hq] at hw
    dsimp only at hw
    obtain ⟨E, hl', hc, _⟩ := hw
    obtain ⟨f, hf⟩ : ∃ f, formN t = some f := by
      cases hf : formN t with
      | some f => exact ⟨f, rfl⟩
      | none => unfold lookN at hq; rw [hf] at hq; cases hq
    have hcl := cutN_len (look_cut hf hq)
    dsimp only at hcl
    have hl : l'.length = l.length + (a.length + (E.length + b.length)) := by rw [hl']; simp
    refine ⟨by omega, ?_⟩
    rw [List.take_of_length_le (by omega)]
    have hc2 := hc.more b
    rw [show l ++ (a ++ E) ++ b = l' by rw [hl']; simp] at hc2
    have r1 := rawM_at (l := l') (a := l.length) (x := a) (y := E ++ b) (by rw [hl', List.drop_left]) (by omega) hcl.2.1
    have hnm := namesM_chain hc2 hcl.2.2.2.2
    rw [hcl.2.2.1] at hnm
    have hdr : l'.drop (l.length + a.length + E.length) = b ++ [] := by
      rw [hl', List.append_nil, show l ++ (a ++ (E ++ b)) = (l ++ a ++ E) ++ b by simp, show l.length + a.length + E.length = (l ++ a ++ E).length by simp; omega, List.drop_left]
    have r3 := rawM_at hdr (by omega) hcl.2.2.2.1
    have hM : readM t l' l.length (l'.length - l.length) = (d, (l.length + a.length + E.length + 4 * f.2.2, false)) := by
      unfold readM
      rw [hf]
      dsimp only
      rw [r1]
      dsimp only
      rw [← hcl.2.1, hnm]
      dsimp only
      rw [r3]
      dsimp only
      rw [hcl.1, List.append_assoc]
    unfold readD
    rw [hM]
    dsimp only
    rw [if_pos ⟨rfl, by have := hcl.2.2.2.1; omega, hok⟩]

set_option maxRecDepth 100000 in
theorem rdWrite_no {w : World} {b : Nat} (t : Int) (s : ByteArray) (hs : s.size ≤ 140737488355328) (hok : okD t s.data.toList = false) :
    Calls Try.prog 63 #[.pointer (some ⟨b, 0, none⟩), .int .u16 t, .string s] w fun e w' => e = .returned (.int .i64 2) ∧ Below w.heap.size w w' := by
  have HCK := Lib.hid (rdCheck_any t s hs w)
  rw [chk_no hok] at HCK
  clear hs hok
  go_enter Try.func63, Try.ntmps63
  go_wp2_with (fail)
  with_reducible refine HCK.out.mono ?_
  rintro e w1 ⟨rfl, hb1⟩
  have HB1 := Lib.hid hb1
  clear hb1 HCK
  go_wp2_with (fail)
  go_ret
  exact ⟨rfl, HB1.out⟩
end Go.Proofs.Ytkjefohkhdadaaa
