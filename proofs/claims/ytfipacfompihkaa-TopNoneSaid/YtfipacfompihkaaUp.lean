/- The walk of package walk's Up, as an iterator. -/
import Derived.Test.YtfipacfompihkaaNamesP
import Derived.Test.YtfipacfompihkaaDepth
namespace Go.Proofs.Ytfipacfompihkaa
open Go.RowKit Go.Shelf
attribute [local go_sem] Oper.semAt_some

/-- A name, its parent, and so on, the root last. -/
def upsL (l : Bs) : List Bs := if isName l = true then (List.range ((labs l).1.length + 1)).map fun k => l.drop (pos (labs l).1 k) else []
theorem ups_yes {l : Bs} (h : isName l = true) : upsL l = (List.range ((labs l).1.length + 1)).map fun k => l.drop (pos (labs l).1 k) := if_pos h
theorem ups_length {l : Bs} (h : isName l = true) : (upsL l).length = (labs l).1.length + 1 := by rw [ups_yes h]; simp
theorem ups_at {l : Bs} (h : isName l = true) {k : Nat} (hk : k < (labs l).1.length + 1) : (upsL l).take k ++ [l.drop (pos (labs l).1 k)] = (upsL l).take (k + 1) := by
  have hl : k < (upsL l).length := by rw [ups_length h]; exact hk
  rw [List.take_succ_eq_append_getElem hl]
  congr 2
  simp [ups_yes h]
theorem drop_root {l : Bs} (h : isName l = true) (k : Nat) : l.drop (pos (labs l).1 k) = [0] ↔ (labs l).1.length ≤ k := by
  have h1 := isName_eq (drop_name h k)
  rw [drop_labs h] at h1
  constructor
  · intro h2
    have h3 := drop_labs h k
    rw [h2] at h3
    have h4 : ((labs l).1.drop k) = [] := by
      have := congrArg Prod.fst h3
      rw [show (labs [0]).1 = [] by decide] at this
      exact this.symm
    have := List.drop_eq_nil_iff.1 h4
    exact this
  · intro h2
    rw [h1, List.drop_eq_nil_of_le h2]
    rfl
theorem drop_par {l : Bs} (h : isName l = true) {k : Nat} (hk : k < (labs l).1.length) : parL (l.drop (pos (labs l).1 k)) = l.drop (pos (labs l).1 (k + 1)) := by
  rw [parL_labs (drop_name h k) (fun e => by have := (drop_root h k).1 e; omega), drop_labs h]
  have h1 := isName_eq (drop_name h (k + 1))
  rw [drop_labs h] at h1
  rw [h1]
  unfold mk
  simp [List.drop_drop, Nat.add_comm]

theorem Up_in (n : Nat) (s : ByteArray) (w : World) :
    CallsIn Fence.wide n Try.prog 86 #[.string s] w fun e w' => e = .returned (.func (.func 107) #[] #[.pointer (some ⟨w.heap.size, 0, none⟩)]) ∧ w' = w.alloc (.cells #[.string s] 9) := by
  refine callsIn_of_wp Try.func86 rfl trivial ?_ rfl
  simp only [Try.ntmps86, List.size_toArray, List.length_cons, List.length_nil, Nat.reduceAdd, Nat.reduceSub, Array.replicate_succ, Array.replicate_zero, List.push_toArray, List.append_toArray, List.nil_append, List.cons_append]
  gi_wp2
  go_ret
  exact ⟨rfl, rfl⟩

set_option maxRecDepth 100000 in
set_option maxHeartbeats 400000 in
theorem Up1_N (Bn : Nat) (s : ByteArray) (hs : s.size ≤ maxLen) (w : World) (hc : Blk w Bn 9 #[.string s]) :
    SeqN Try.prog 107 #[.pointer (some ⟨Bn, 0, none⟩)] (fun x : Bs => #[Value.string ⟨x.toArray⟩]) Bn (upsL s.data.toList) w := by
  intro m l J Jx W hW hJ hJx hY h0
  obtain ⟨n, hn⟩ : ∃ n : Nat, 8 ≤ n := ⟨8, by omega⟩
  refine callsIn_wide.2 ((callsIn_wide (n := n)).1 ?_)
  have h1n : 1 ≤ n := by omega
  have hBn := hc.lt
  have hBW : Bn < W.heap.size := by have := hW.size; omega
  have hst : Blk W Bn 9 #[.string s] := (hW.block _ hBn).trans hc
  have c0 : W.cell? ⟨Bn, 0, none⟩ = some (.string s) := hst.cell 0
  have hCk := fun W => (callsIn_wide (n := n - 1)).2 (Check_any s hs W)
  refine callsIn_of_wp Try.func107 rfl trivial ?_ rfl
  simp only [Try.ntmps107, List.size_toArray, List.length_cons, List.length_nil, Nat.reduceAdd, Nat.reduceSub, Array.replicate_succ, Array.replicate_zero, List.push_toArray, List.append_toArray, List.nil_append, List.cons_append]
  rcases chk_cases s.data.toList with ⟨hn1, hn2⟩ | ⟨hn1, hn2⟩
  · rw [hn2] at hCk
    have HCk := Lib.hid hCk
    clear hCk hn2
    gi_wp2_with (refine ⟨trivial, ?_⟩; gi_at_call 27; refine (HCk.out _).mono ?_; rintro e w1 ⟨rfl, hb1⟩; have c1 : w1.cell? ⟨Bn, 0, none⟩ = some (.string s) := (hb1.cell (p := ⟨Bn, 0, none⟩) hBW).trans c0)
    gi_loopg [3] ((labs s.data.toList).1.length + 1) (fun g at' wr => ∃ (k : Nat) (s' : ByteArray), Aside (g + k = (labs s.data.toList).1.length + 1) ∧ k ≤ (labs s.data.toList).1.length ∧ at' = .string s' ∧ Aside (s'.data.toList = s.data.toList.drop (pos (labs s.data.toList).1 k)) ∧ Aside (J w1.heap.size ((upsL s.data.toList).take k) wr))
    case atStart => exact ⟨0, s, by show _ + 0 = _; rfl, by omega, rfl, by show _ = _; rw [pos_zero]; rfl, h0 _ w1 hb1 rfl⟩
    case round =>
      obtain ⟨k, s', hk, hkl, rfl, hs', hj⟩ := hrel
      have hpre : (upsL s.data.toList).take k ++ [s.data.toList.drop (pos (labs s.data.toList).1 k)] = (upsL s.data.toList).take (k + 1) := ups_at hn1 (by omega)
      obtain ⟨fn, tmps, assign, body, hyl, hR⟩ := yield_deep (m := n - 1) (hY w1.heap.size _ (s.data.toList.drop (pos (labs s.data.toList).1 k)) wr hj.out (by rw [hpre]; exact List.take_prefix _ _))
      rw [hpre] at hR
      rw [← hs'.out, show (⟨s'.data.toList.toArray⟩ : ByteArray) = s' from rfl] at hyl
      have hsz' : s'.size ≤ maxLen := by
        have h1 : s'.data.toList.length ≤ s.data.toList.length := by rw [hs'.out]; simp
        have h2 : s'.size ≤ s.size := by simpa using h1
        omega
      have hnm := drop_name hn1 k
      have hrt := drop_root hn1 k
      rw [← hs'.out] at hnm hrt
      have HR := Lib.hid hR
      have HJ := Lib.hid (And.intro hJ (And.intro hJx hb1))
      by_cases hk2 : k < (labs s.data.toList).1.length
      · have hP := fun W => Parent_name s' hsz' hnm (fun e => by have := hrt.1 e; omega) W
        have hpar := drop_par hn1 hk2
        rw [← hs'.out] at hpar
        have HP := Lib.hid hP
        have HK := Lib.hid (And.intro hkl (And.intro hk2 hpar))
        clear hP hpar hk2 hkl hnm hrt hsz' hR hY hJ hJx hpre hW h0 hb1 hs hc hBn hBW hst c0 c1 hn hn1 hj
        gi_wp2_with (fail)
        refine HR.out.mono ?_
        rintro e W3 (⟨rfl, h1, h2⟩ | ⟨rfl, h1, h2⟩)
        · have H1 := Lib.hid h1
          clear h1 h2
          gi_wp2_with (refine ⟨trivial, ?_⟩; gi_at_call 108; refine (callsIn_wide.2 (HP.out _)).mono ?_; rintro e w2 ⟨rfl, hb2⟩)
          obtain ⟨hkl, hk2, hpar⟩ := HK.out
          obtain ⟨hJ, _, _⟩ := HJ.out
          gi_roundg ((labs s.data.toList).1.length - k)
          case measure => have := hk.out; omega
          case rel => exact ⟨k + 1, ⟨(parL s'.data.toList).toArray⟩, (by show _ = _; omega), by omega, rfl, (by show (parL s'.data.toList) = _; exact hpar), hJ _ _ _ _ H1.out (.of_below hb2)⟩
        · have H1 := Lib.hid h1
          clear h1 h2
          gi_wp2_with (fail)
          refine bodyPost_end (results_none rfl _ _ _) rfl ?_
          exact ⟨⟨_, rfl⟩, w1.heap.size, .inr ⟨_, List.take_prefix _ _, H1.out⟩⟩
      · have hP := fun W => Parent_root s' hsz' (hrt.2 (by omega)) W
        have HP := Lib.hid hP
        have hfull : (upsL s.data.toList).take (k + 1) = upsL s.data.toList := List.take_of_length_le (by rw [ups_length hn1]; omega)
        have HK := Lib.hid hfull
        clear hP hfull hk2 hkl hnm hrt hsz' hR hY hJ hJx hpre hW h0 hb1 hs hc hBn hBW hst c0 c1 hn hn1 hj
        gi_wp2_with (fail)
        refine HR.out.mono ?_
        rintro e W3 (⟨rfl, h1, h2⟩ | ⟨rfl, h1, h2⟩)
        · have H1 := Lib.hid h1
          clear h1 h2
          gi_wp2_with (refine ⟨trivial, ?_⟩; gi_at_call 108; refine (callsIn_wide.2 (HP.out _)).mono ?_; rintro e w2 ⟨rfl, hb2⟩)
          obtain ⟨hJ, _, _⟩ := HJ.out
          refine bodyPost_ret (results_none rfl _ _ _) rfl ?_
          refine ⟨⟨_, rfl⟩, w1.heap.size, .inl (hJ _ _ _ _ ?_ (.of_below hb2))⟩
          rw [← HK.out]
          exact H1.out
        · have H1 := Lib.hid h1
          clear h1 h2
          gi_wp2_with (fail)
          refine bodyPost_end (results_none rfl _ _ _) rfl ?_
          exact ⟨⟨_, rfl⟩, w1.heap.size, .inr ⟨_, List.take_prefix _ _, H1.out⟩⟩
  · rw [hn2] at hCk
    have HCk := Lib.hid hCk
    clear hCk hn2
    gi_wp2_with (refine ⟨trivial, ?_⟩; gi_at_call 27; refine (HCk.out _).mono ?_; rintro e w1 ⟨rfl, hb1⟩)
    refine bodyPost_ret (results_none rfl _ _ _) rfl ?_
    refine ⟨⟨_, rfl⟩, w1.heap.size, .inl ?_⟩
    rw [show upsL s.data.toList = [] by unfold upsL; rw [if_neg (by rw [hn1]; simp)]]
    exact h0 _ w1 hb1 rfl
end Go.Proofs.Ytfipacfompihkaa
