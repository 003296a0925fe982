/- The walk of package walk's Up as an iterator under whose rounds the body may turn what it has made itself. -/
import Derived.Test.YtjhhhkhcnohmiaaUp
import Derived.Test.YtjhhhkhcnohmiaaRangeM
namespace Go.Proofs.Ytjhhhkhcnohmiaa
open Go.RowKit Go.Shelf
attribute [local go_sem] Oper.semAt_some

set_option maxRecDepth 100000 in
set_option maxHeartbeats 400000 in
theorem Up1_M (Bn : Nat) (s : ByteArray) (hs : s.size ≤ maxLen) (w : World) (hc : Blk w Bn 9 #[.string s]) :
    SeqM Try.prog 72 #[.pointer (some ⟨Bn, 0, none⟩)] (fun x : Bs => #[Value.string ⟨x.toArray⟩]) Bn (Bn + 1) (upsL s.data.toList) w := by
  intro m l J Jx W hW hJ hJx hY h0
  obtain ⟨n, hn⟩ : ∃ n : Nat, 8 ≤ n := ⟨8, by omega⟩
  refine callsIn_wide.2 ((callsIn_wide (n := n)).1 ?_)
  have h1n : 1 ≤ n := by omega
  have hBn := hc.lt
  have hBW : Bn < W.heap.size := by have := hW.size; omega
  have hst : Blk W Bn 9 #[.string s] := (hW.block _ hBn).trans hc
  have c0 : W.cell? ⟨Bn, 0, none⟩ = some (.string s) := hst.cell 0
  have hCk := fun W => (callsIn_wide (n := n - 1)).2 (Check_any s hs W)
  refine callsIn_of_wp Try.func72 rfl trivial ?_ rfl
  simp only [Try.ntmps72, List.size_toArray, List.length_cons, List.length_nil, Nat.reduceAdd, Nat.reduceSub, Array.replicate_succ, Array.replicate_zero, List.push_toArray, List.append_toArray, List.nil_append, List.cons_append]
  rcases chk_cases s.data.toList with ⟨hn1, hn2⟩ | ⟨hn1, hn2⟩
  · rw [hn2] at hCk
    have HCk := Lib.hid hCk
    clear hCk hn2
    gi_wp2_with (refine ⟨trivial, ?_⟩; gi_at_call 22; refine (HCk.out _).mono ?_; rintro e w1 ⟨rfl, hb1⟩; have c1 : w1.cell? ⟨Bn, 0, none⟩ = some (.string s) := (hb1.cell (p := ⟨Bn, 0, none⟩) hBW).trans c0)
    gi_loopg [3] ((labs s.data.toList).1.length + 1) (fun g at' wr => ∃ (k : Nat) (s' : ByteArray), Aside (g + k = (labs s.data.toList).1.length + 1) ∧ k ≤ (labs s.data.toList).1.length ∧ at' = .string s' ∧ Aside (s'.data.toList = s.data.toList.drop (pos (labs s.data.toList).1 k)) ∧ Aside (J w1.heap.size ((upsL s.data.toList).take k) wr))
    case atStart => exact ⟨0, s, by show _ + 0 = _; rfl, by omega, rfl, by show _ = _; rw [pos_zero]; rfl, h0 _ w1 hb1 rfl⟩
    case round =>
      obtain ⟨k, s', hk, hkl, rfl, hs', hj⟩ := hrel
      have hpre : (upsL s.data.toList).take k ++ [s.data.toList.drop (pos (labs s.data.toList).1 k)] = (upsL s.data.toList).take (k + 1) := ups_at hn1 (by omega)
      obtain ⟨fn, tmps, assign, body, hyl, hR⟩ := yield_deep (m := n - 1) (hY w1.heap.size _ (s.data.toList.drop (pos (labs s.data.toList).1 k)) wr hj.out (by rw [hpre]; exact List.take_prefix _ _))
      rw [hpre] at hR
      rw [← hs'.out, show (⟨s'.data.toList.toArray⟩ : ByteArray) = s' from rfl] at hyl
      have hsz' : s'.size ≤ maxLen := by
        have h1 : s'.data.toList.length ≤ s.data.toList.length := by rw [hs'.out]; simp
        have h2 : s'.size ≤ s.size := by simpa using h1
        omega
      have hnm := drop_name hn1 k
      have hrt := drop_root hn1 k
      rw [← hs'.out] at hnm hrt
      have HR := Lib.hid hR
      have HJ := Lib.hid (And.intro hJ (And.intro hJx hb1))
      by_cases hk2 : k < (labs s.data.toList).1.length
      · have hP := fun W => Parent_name s' hsz' hnm (fun e => by have := hrt.1 e; omega) W
        have hpar := drop_par hn1 hk2
        rw [← hs'.out] at hpar
        have HP := Lib.hid hP
        have HK := Lib.hid (And.intro hkl (And.intro hk2 hpar))
        clear hP hpar hk2 hkl hnm hrt hsz' hR hY hJ hJx hpre hW h0 hb1 hs hc hBn hBW hst c0 c1 hn hn1 hj
        gi_wp2_with (fail)
        refine HR.out.mono ?_
        rintro e W3 (⟨rfl, h1, h2⟩ | ⟨rfl, h1, h2⟩)
        · have H1 := Lib.hid h1
          clear h1 h2
          gi_wp2_with (refine ⟨trivial, ?_⟩; gi_at_call 25; refine (callsIn_wide.2 (HP.out _)).mono ?_; rintro e w2 ⟨rfl, hb2⟩)
          obtain ⟨hkl, hk2, hpar⟩ := HK.out
          obtain ⟨hJ, _, _⟩ := HJ.out
          gi_roundg ((labs s.data.toList).1.length - k)
          case measure => have := hk.out; omega
          case rel => exact ⟨k + 1, ⟨(parL s'.data.toList).toArray⟩, (by show _ = _; omega), by omega, rfl, (by show (parL s'.data.toList) = _; exact hpar), hJ _ _ _ _ H1.out (.of_below hb2)⟩
        · have H1 := Lib.hid h1
          clear h1 h2
          gi_wp2_with (fail)
          refine bodyPost_end (results_none rfl _ _ _) rfl ?_
          exact ⟨⟨_, rfl⟩, w1.heap.size, .inr ⟨_, List.take_prefix _ _, H1.out⟩⟩
      · have hP := fun W => Parent_root s' hsz' (hrt.2 (by omega)) W
        have HP := Lib.hid hP
        have hfull : (upsL s.data.toList).take (k + 1) = upsL s.data.toList := List.take_of_length_le (by rw [ups_length hn1]; omega)
        have HK := Lib.hid hfull
        clear hP hfull hk2 hkl hnm hrt hsz' hR hY hJ hJx hpre hW h0 hb1 hs hc hBn hBW hst c0 c1 hn hn1 hj
        gi_wp2_with (fail)
        refine HR.out.mono ?_
        rintro e W3 (⟨rfl, h1, h2⟩ | ⟨rfl, h1, h2⟩)
        · have H1 := Lib.hid h1
          clear h1 h2
          gi_wp2_with (refine ⟨trivial, ?_⟩; gi_at_call 25; refine (callsIn_wide.2 (HP.out _)).mono ?_; rintro e w2 ⟨rfl, hb2⟩)
          obtain ⟨hJ, _, _⟩ := HJ.out
          refine bodyPost_ret (results_none rfl _ _ _) rfl ?_
          refine ⟨⟨_, rfl⟩, w1.heap.size, .inl (hJ _ _ _ _ ?_ (.of_below hb2))⟩
          rw [← HK.out]
          exact H1.out
        · have H1 := Lib.hid h1
          clear h1 h2
          gi_wp2_with (fail)
          refine bodyPost_end (results_none rfl _ _ _) rfl ?_
          exact ⟨⟨_, rfl⟩, w1.heap.size, .inr ⟨_, List.take_prefix _ _, H1.out⟩⟩
  · rw [hn2] at hCk
    have HCk := Lib.hid hCk
    clear hCk hn2
    gi_wp2_with (refine ⟨trivial, ?_⟩; gi_at_call 22; refine (HCk.out _).mono ?_; rintro e w1 ⟨rfl, hb1⟩)
    refine bodyPost_ret (results_none rfl _ _ _) rfl ?_
    refine ⟨⟨_, rfl⟩, w1.heap.size, .inl ?_⟩
    rw [show upsL s.data.toList = [] by unfold upsL; rw [if_neg (by rw [hn1]; simp)]]
    exact h0 _ w1 hb1 rfl
end Go.Proofs.Ytjhhhkhcnohmiaa
