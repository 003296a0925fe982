/- The walk of hardtackref20.left. Conditions: none. -/
import Derived.Test.YthjkdpphbipgfaaGlueM
import Derived.Deep.DeepMust
namespace Go.Proofs.Ythjkdpphbipgfaa
open Go.RowKit Go.Shelf Go.Lib

theorem left_step {z : Bs} {xs : List RRec} {k : Nat} {r : RRec} (hr : xs[k]? = some r) : leftL z (xs.take (k + 1)) = leftL z (xs.take k) ++ (if staysB z r = true then [r] else []) := by
  rw [take_at hr]
  unfold leftL
  rw [List.filter_append]
  simp [List.filter_cons]

set_option maxRecDepth 100000 in
set_option maxHeartbeats 4000000 in
theorem left_any (xs : List RRec) (A : Option Addr) (cc : Nat) (z : ByteArray) (hz : z.size ≤ maxLen) (w : World) (hT : RTab w A xs) (hs : ∀ e ∈ xs, e.small) (hl : xs.length ≤ 20) :
    Calls Try.prog 40 #[.slice A xs.length cc, .string z] w (CollPostR (leftL z.data.toList xs) w) := by
  obtain ⟨i0, hi0, hz0, hz1, hz2⟩ := info_parts info_rr
  have HS := Lib.hid (fun (r : RRec) (hr : r.small) W => rStays_any r z (by have := hr.1; unfold maxLen; omega) (by have := hr.2; omega) hz W)
  have HT := Lib.hid (And.intro hT (And.intro hs hl))
  have hlI : (xs.length : Int) ≤ 20 := by omega
  clear hT hs hz hl
  go_enter Try.func40, Try.ntmps40
  go_wp2_with (fail)
  go_loopg [5, 10] (xs.length + 1) (fun gg v5 v10 wr => ∃ (k n c : Nat) (A2 : Option Addr), v10 = .int .i64 (k : Int) ∧ v5 = .slice A2 n c ∧ k ≤ xs.length ∧ Aside (gg + k = xs.length + 1) ∧
    Aside (n = (leftL z.data.toList (xs.take k)).length ∧ Sl wr 5 (.slice A2 n c) n (flatV RRec.vs (leftL z.data.toList (xs.take k))) ∧ (∀ g, (Value.slice A2 n c).ownBlock = some g → w.heap.size ≤ g) ∧ Below w.heap.size w wr))
  case atStart => exact ⟨0, 0, 0, none, rfl, rfl, by omega, rfl, by simp [leftL], Sl.nil _ _, fun g hg => by simp [Value.ownBlock] at hg, Below.refl _ _⟩
  case round =>
    obtain ⟨k, n, c, A2, rfl, rfl, hk, hg, hI⟩ := hrel
    by_cases hlt : k < xs.length
    · obtain ⟨r, hr⟩ : ∃ r, xs[k]? = some r := ⟨_, List.getElem?_eq_getElem hlt⟩
      have hltI : (k : Int) < (xs.length : Int) := by omega
      have hrs := HT.out.2.1 r (List.mem_of_getElem? hr)
      obtain ⟨b, off, rfl, hbw, d0, d1, d2, d3, d4⟩ := (HT.out.1.below hI.out.2.2.2).cells hr
      have HC := Lib.hid (fun W => HS.out r hrs W)
      have HP := Lib.hid (left_step (z := z.data.toList) hr)
      obtain ⟨rn, rt, rc, rl, rd⟩ := r
      clear hr hrs hlt
      obtain ⟨st, hst⟩ : ∃ st, staysB z.data.toList ⟨rn, rt, rc, rl, rd⟩ = st := ⟨_, rfl⟩
      rw [hst] at HC HP
      clear hst
      cases st with
      | false =>
        go_wp2_with (go_at_call 17; refine (HC.out _).mono ?_; rintro e w2 ⟨rfl, hb2⟩; have H2 := Lib.hid hb2; clear hb2)
        go_roundg (xs.length - k)
        case measure => have := hg.out; omega
        case rel =>
          obtain ⟨h1, h2, h3, h4⟩ := hI.out
          have hb : Below wr.heap.size wr w2 := ((Below.refl _ _).alloc (Nat.le_refl _) _).trans (H2.out.mono (by simp))
          have hP := HP.out
          rw [if_neg (by simp), List.append_nil] at hP
          refine ⟨k + 1, n, c, A2, by go_num, rfl, by omega, (show _ = _ by omega), ?_, ?_, h3, h4.trans (hb.mono h4.size)⟩
          · rw [hP]; exact h1
          · rw [hP]; exact h2.below hb h2.lt
      | true =>
        have hnl : n ≤ 20 := by
          have h1 := hI.out.1
          have h2 := left_len z.data.toList (xs.take k)
          have h3 := HT.out.2.2
          simp only [List.length_take] at h2
          omega
        go_wp2_with (first | (go_at_call 17; refine (HC.out _).mono ?_; rintro e w2 ⟨rfl, hb2⟩; have hX := (Blk.new wr 30 #[.string rn, .int .u16 rt, .int .u16 rc, .int .u32 rl, .string rd]).below hb2 (by simp); have x0 := hX.cell 0; have x1 := hX.cell 1; have x2 := hX.cell 2; have x3 := hX.cell 3; have x4 := hX.cell 4; have hb : Below wr.heap.size wr w2 := ((Below.refl _ _).alloc (Nat.le_refl _) _).trans (hb2.mono (by simp)); have HSL := Lib.hid ((hI.out.2.1.below hb hI.out.2.1.lt).alloc (.cells #[.string rn, .int .u16 rt, .int .u16 rc, .int .u32 rl, .string rd] 30)); have HSR := Lib.hid (src_rr (P := Try.prog) Try.underlying24 w2 30 rn rd rt rc rl); have H2 := Lib.hid hb; clear hb2 hb hX) | (at_builtin; go_must (refine wpList_append_sl _ rfl (.tmp 17) (.tmp 19) 24 24 rfl 30 i0 (.agg #[.string ⟨#[]⟩, .int .u16 0, .int .u16 0, .int .u32 0, .string ⟨#[]⟩]) 5 40 Try.underlying24 hi0 hz0 hz1 hz2 rfl (.slice A2 n c) n (flatV RRec.vs (leftL z.data.toList (xs.take k))) rfl HSL.out _ rfl 1 (flatV RRec.vs [⟨rn, rt, rc, rl, rd⟩]) HSR.out (by unfold maxLen; omega) (by omega) ?_); intro v3 w9 hs3 hg3 hv3; obtain ⟨A3, c3, rfl, hc3, hm3⟩ := hs3.shape; have H3 := Lib.hid (And.intro hs3 (And.intro hg3 hv3)); clear hs3 hg3 hv3 hc3 hm3))
        go_roundg (xs.length - k)
        case measure => have := hg.out; omega
        case rel =>
          obtain ⟨h1, h2, h3, h4⟩ := hI.out
          obtain ⟨hs3, hg3, hv3⟩ := H3.out
          have hb := H2.out
          have hP := HP.out
          simp only [if_true] at hP
          refine ⟨k + 1, n + 1, c3, A3, by go_num, rfl, by omega, (show _ = _ by omega), ?_, ?_, own_from h3 (by simp; have := h4.size; have := hb.size; omega) hv3, ?_⟩
          · rw [hP, List.length_append, ← h1]; rfl
          · rw [hP, flatV_append]; exact hs3
          · exact ((h4.trans (hb.mono h4.size)).alloc (by have := h4.size; have := hb.size; omega) _).grown hg3 (by have := h4.size; have := hb.size; simp; omega) (fun g hg => h3 g hg)
    · have hltI : ¬ (k : Int) < (xs.length : Int) := by omega
      obtain rfl : k = xs.length := by omega
      clear hlt
      go_wp2_with (fail)
      go_ret
      obtain ⟨h1, h2, h3, h4⟩ := hI.out
      rw [List.take_length] at h1 h2
      rw [h1] at h2 h3 ⊢
      exact ⟨A2, c, rfl, h2, h3, h4⟩
end Go.Proofs.Ythjkdpphbipgfaa
