/- The builtin clear at a slice whose elements have more cells than one. Plain: no program in sight. Conditions: none. The walk of slices.DeleteFunc at options, over a row of the call's own. The walk of slices.DeleteFunc at options, where something is deleted. The walk of edns.With. What was put in is had: plain. -/
import Derived.Test.YtgfpnkakglgokaaRes
import Derived.Lib.SliceRun
import Derived.Test.YtgfpnkakglgokaaCloneO
import Derived.Test.YtgfpnkakglgokaaEdns
import Derived.Deep.DeepMust
namespace Go.Proofs.Ytgfpnkakglgokaa
open Go.RowKit Go.Lib

end Go.Proofs.Ytgfpnkakglgokaa

namespace Go.Proofs.Ytgfpnkakglgokaa
open Go.RowKit Go.Lib

/-- What is left. -/
def lefts (k : Int) (xs : List Opt) : List Opt := xs.filter fun o => !(Opt.is k o)
/-- A row of options of the call's own reads as options. -/
theorem otab_of_sl {w : World} {A : Option Addr} {c : Nat} {xs : List Opt} (h : Sl w 2 (.slice A xs.length c) xs.length (flatO xs)) (hok : ∀ e ∈ xs, e.ok) : OTab w A xs := by
  refine ⟨hok, fun hp => ?_⟩
  obtain ⟨g, cap, hv, hg, _, _, h4⟩ := h.form hp
  injection hv with hA _ _
  subst hA
  refine ⟨g, 0, rfl, hg, fun j e he i u hu => ?_⟩
  have := h4 (j * 2 + i) u (flatO_at xs j e i u he hu)
  simpa using this
theorem lefts_miss {k : Int} {xs : List Opt} (h : xs.find? (Opt.is k) = none) : lefts k xs = xs := by
  unfold lefts
  rw [List.filter_eq_self]
  intro o ho
  have := List.find?_eq_none.1 h o ho
  simpa using this

/-- What DeleteFunc gives back. -/
def DelPost (k : Int) (xs : List Opt) (v : Value) (w : World) (e : Ending) (w' : World) : Prop :=
  ∃ A c, e = .returned (.slice A (lefts k xs).length c) ∧ Sl w' 2 (.slice A (lefts k xs).length c) (lefts k xs).length (flatO (lefts k xs)) ∧
    (∀ g, (Value.slice A (lefts k xs).length c).ownBlock = some g → v.ownBlock = some g) ∧ KeepK (fun i => i < w.heap.size ∧ v.ownBlock ≠ some i) w w'

end Go.Proofs.Ytgfpnkakglgokaa

namespace Go.Proofs.Ytgfpnkakglgokaa
open Go.RowKit Go.Lib

theorem lefts_snoc (k : Int) (xs : List Opt) {j : Nat} (hj : j < xs.length) : lefts k (xs.take (j + 1)) = if Opt.is k xs[j] = true then lefts k (xs.take j) else lefts k (xs.take j) ++ [xs[j]] := by
  unfold lefts
  rw [List.take_succ_eq_append_getElem hj, List.filter_append]
  cases h : Opt.is k xs[j] <;> simp [h]

theorem flatO_set : ∀ (Z : List Opt) (i : Nat) (o : Opt), flatO (Z.set i o) = ((flatO Z).set (i * 2) (.int .u16 o.c)).set (i * 2 + 1) (.string o.d)
  | [], i, o => by simp [flatO]
  | e :: Z, 0, o => by simp [flatO, Opt.vs]
  | e :: Z, i + 1, o => by
    have h1 : flatO (e :: Z) = .int .u16 e.c :: .string e.d :: flatO Z := rfl
    have h2 : flatO ((e :: Z).set (i + 1) o) = .int .u16 e.c :: .string e.d :: flatO (Z.set i o) := rfl
    rw [h1, h2, flatO_set Z i o, show (i + 1) * 2 = i * 2 + 1 + 1 by omega, List.set_cons_succ, List.set_cons_succ, List.set_cons_succ, List.set_cons_succ]
theorem mem_zeroCells {z : Array Value} {n : Nat} {v : Value} (h : v ∈ (Builtin.zeroCells z n).toList) : ∃ i, i < z.size ∧ v = z[i]! := by
  unfold Builtin.zeroCells at h
  rw [Array.mem_toList_iff, Array.mem_map] at h
  obtain ⟨i, hi, rfl⟩ := h
  rw [Array.mem_range] at hi
  have : 0 < z.size := by
    rcases Nat.eq_zero_or_pos z.size with h0 | h0
    · rw [h0] at hi; omega
    · exact h0
  exact ⟨i % z.size, Nat.mod_lt _ this, rfl⟩
theorem Sl.setO {w : World} {g n c : Nat} {Z : List Opt} (h : Sl w 2 (.slice (some ⟨g, 0, none⟩) n c) n (flatO Z)) (i : Nat) (hi : i < n) (o : Opt) :
    Sl ((w.setCell ⟨g, i * 2, none⟩ (.int .u16 o.c)).setCell ⟨g, i * 2 + 1, none⟩ (.string o.d)) 2 (.slice (some ⟨g, 0, none⟩) n c) n (flatO (Z.set i o)) := by
  rw [flatO_set]
  exact (h.set_ (g := g) rfl (i * 2) _ (by omega)).set_ (g := g) rfl (i * 2 + 1) _ (by omega)
theorem flatO_take (Z : List Opt) (m : Nat) : (flatO Z).take (m * 2) = flatO (Z.take m) := by
  have h := congrArg flatO (List.take_append_drop m Z)
  rw [flatO_append] at h
  rcases Nat.lt_or_ge m Z.length with hm | hm
  · rw [← h, List.take_append_of_le_length (by rw [flatO_length, List.length_take]; omega), List.take_of_length_le (by rw [flatO_length, List.length_take]; omega)]
  · rw [List.take_of_length_le (by rw [flatO_length]; omega), List.take_of_length_le hm]

end Go.Proofs.Ytgfpnkakglgokaa

namespace Go.Proofs.Ytgfpnkakglgokaa
open Go.RowKit Go.Lib

theorem lefts_before {k : Int} {xs : List Opt} {p : Nat} (h : ∀ j (hj : j < xs.length), j < p → Opt.is k xs[j] = false) : lefts k (xs.take p) = xs.take p := by
  unfold lefts
  rw [List.filter_eq_self]
  intro o ho
  obtain ⟨j, hj, rfl⟩ := List.getElem_of_mem ho
  rw [List.length_take] at hj
  rw [List.getElem_take, h j (by omega) (by omega)]
  rfl

theorem src_two {P : Program} {tx e' : TypeId} (hk : P.underlying tx = some (.slice e')) (w : World) (t : TypeId) (u v : Value) (h1 : u.oneCell' = true) (h2 : v.oneCell' = true) : Src P 2 tx (.slice (some ⟨w.heap.size, 0, none⟩) 1 1) 1 [u, v] (w.alloc (.cells #[u, v] t)) :=
  Src.ofSlice _ hk ⟨w.heap.size, 0, none⟩ 1 1 [u, v] rfl (fun j x hx => by
    match j, hx with
    | 0, hx =>
      have : u = x := by simpa using hx
      subst this
      simp [Addr.add]
    | 1, hx =>
      have : v = x := by simpa using hx
      subst this
      simp [Addr.add]
    | j + 2, hx => simp at hx) (fun x hx => by
      rcases List.mem_cons.1 hx with rfl | hx
      · exact h1
      · rw [List.mem_singleton.1 hx]; exact h2)

/-- What With puts in. -/
def withO (xs : List Opt) (c s : ByteArray) : List Opt := lefts 10 xs ++ [⟨10, c ++ s⟩]

end Go.Proofs.Ytgfpnkakglgokaa

namespace Go.Proofs.Ytgfpnkakglgokaa
open Go.RowKit Go.Lib

theorem ext_left (c s : ByteArray) (n : Nat) (h : c.size = n) : (c ++ s).extract 0 n = c := by
  subst h
  rw [ByteArray.ext_iff]
  simp
theorem ext_right (c s : ByteArray) (n : Nat) (h : c.size = n) : (c ++ s).extract n (c ++ s).size = s := by
  subst h
  rw [ByteArray.ext_iff, ByteArray.data_extract, ByteArray.data_append, ByteArray.size_append]
  show (c.data ++ s.data).extract c.data.size (c.data.size + s.data.size) = s.data
  rw [Array.extract_append]
  have h1 : c.data.extract c.data.size (c.data.size + s.data.size) = #[] := by
    apply Array.ext'
    rw [Array.toList_extract, List.extract_eq_take_drop, ← Array.length_toList, List.drop_length]
    simp
  rw [h1, Nat.sub_self, Nat.add_sub_cancel_left, Array.extract_size, Array.empty_append]
theorem ba_empty {s : ByteArray} (h : s.size = 0) : s = ⟨#[]⟩ := by
  rw [ByteArray.ext_iff]
  exact Array.eq_empty_of_size_eq_zero h
/-- What was put in is had. -/
theorem ckR_with (os : List Opt) (c s : ByteArray) (hr : rightB c s = true) : ckR (withO os c s) = (c, s, 0) := by
  have hf : (withO os c s).find? (Opt.is 10) = some ⟨10, c ++ s⟩ := by
    unfold withO
    rw [List.find?_append]
    have : (lefts 10 os).find? (Opt.is 10) = none := List.find?_eq_none.2 fun x hx => by
      have := (List.mem_filter.1 hx).2
      simpa using this
    rw [this]
    rfl
  have h8 : c.size = 8 := by
    simp only [rightB, Bool.and_eq_true, beq_iff_eq] at hr
    exact hr.1
  have hm : min (c ++ s).size 8 = 8 := by rw [ByteArray.size_append]; omega
  have hC : ckC (c ++ s) = c := by unfold ckC; rw [hm]; exact ext_left c s 8 h8
  have hS : ckS (c ++ s) = s := by unfold ckS; rw [hm]; exact ext_right c s 8 h8
  rw [ckR_of hf hC hS, if_pos hr]
end Go.Proofs.Ytgfpnkakglgokaa
