/- The walk of hardtackref02's Up. -/
import Derived.Test.YtjhhhkhcnohmiaaRefWithin
import Derived.Test.YtjhhhkhcnohmiaaUpM
namespace Go.Proofs.Ytjhhhkhcnohmiaa
open Go.RowKit Go.Lib

set_option maxRecDepth 100000 in
set_option maxHeartbeats 4000000 in
theorem rUp_any (s : ByteArray) (hs : s.size ≤ maxLen) (w : World) : Calls Try.prog 41 #[.string s] w (CollPost (upsL s.data.toList) w) := by
  have HS := Lib.hid (rSplit_any s hs w)
  have hszf := fun w : World => (show (sizeOf 9).run Try.prog w = .ok 1 w from by rfl)
  obtain ⟨i0, hi0, hz0, hz1, hz2⟩ := info_parts info_str
  cases h1 : isName s.data.toList with
  | false =>
    have hu : upsL s.data.toList = [] := by unfold upsL; rw [h1]; rfl
    rw [hu]
    have H1 := Lib.hid h1
    clear h1 hu hs hszf hi0 hz0 hz1 hz2
    go_enter Try.func41, Try.ntmps41
    go_wp2_with (fail)
    with_reducible refine (HS.out).mono ?_
    rintro e w1 ⟨v, rfl, ⟨A, n, c, rfl⟩, _, hb⟩
    rw [H1.out]
    have B1 := Lib.hid hb
    clear hb
    go_wp2_with (fail)
    go_ret
    exact ⟨none, 0, rfl, Sl.nil _ _, fun g hg => by simp [Value.ownBlock] at hg, B1.out⟩
  | true =>
    have hok := labs_ok s.data.toList
    have hlen := labs_length_le s.data.toList
    have h255 := ((isName_iff _).1 h1).1
    obtain ⟨la, hla⟩ : ∃ la, (labs s.data.toList).1 = la := ⟨_, rfl⟩
    obtain ⟨U, hU⟩ : ∃ U, upsL s.data.toList = U := ⟨_, rfl⟩
    have hUl : U.length = la.length + 1 := by rw [← hU, ← hla]; exact ups_length h1
    have hUk : ∀ k, k ≤ la.length → U.take k ++ [mk (la.drop k)] = U.take (k + 1) := fun k hk => by
      rw [← hU, ← hla, mk_drop h1]; exact ups_at h1 (by rw [hla]; omega)
    rw [hU]
    rw [hla] at hok hlen
    have hl255 : la.length ≤ 255 := by omega
    have hlI : (la.length : Int) ≤ 255 := by omega
    have H1 := Lib.hid (And.intro h1 (And.intro hla (And.intro hok (And.intro hUl (And.intro hUk hl255)))))
    clear h1 hla hok hlen h255 hU hUl hUk hs hl255
    go_enter Try.func41, Try.ntmps41
    go_wp2_with (fail)
    with_reducible refine (HS.out).mono ?_
    rintro e w1 ⟨v, rfl, _, hs1, hb⟩
    have hs1' := hs1 H1.out.1
    rw [H1.out.2.1] at hs1'
    obtain ⟨A, c, rfl, hcc, _⟩ := hs1'.shape
    have T1 := Lib.hid (And.intro (sl_tt hs1') hcc)
    rw [H1.out.1]
    have B1 := Lib.hid hb
    clear hb hs1 hs1' hcc
    go_wp2_with (fail)
    go_loopg [5, 6] (la.length + 1) (fun g v i wr => ∃ k : Nat, Aside (g + k = la.length + 1) ∧ i = .int .i64 (k : Int) ∧ Aside (Sl wr 1 v k (strs (U.take k))) ∧ Aside (∀ g, v.ownBlock = some g → w1.heap.size ≤ g) ∧ Aside (Below w1.heap.size w1 wr))
    case atStart => exact ⟨0, rfl, rfl, Sl.nil _ _, (show Aside _ from fun g hg => by simp [Value.ownBlock] at hg), Below.refl _ _⟩
    case round =>
      obtain ⟨k, hg, rfl, hsl, hown, hbw⟩ := hrel
      by_cases hlt : k ≤ la.length
      · have hltI : (k : Int) ≤ (la.length : Int) := by omega
        have hlen : (strs la).length = la.length := strs_len la
        obtain ⟨A3, c3, hrun, hT3⟩ := tail_run (P := Try.prog) (t := 45) Try.underlying45 hszf c k (T1.out.1.below hbw.out) (by rw [hlen]; exact hlt) (by rw [hlen]; exact T1.out.2)
        have hd : (strs la).drop k = strs (la.drop k) := by simp [strs, List.map_drop]
        rw [hd] at hT3
        rw [hd, hlen, strs_len] at hrun
        have hd3 : (la.drop k).length ≤ 1000 := by rw [List.length_drop]; have := H1.out.2.2.2.2.2; omega
        have hMK := rMake_any (la.drop k) A3 c3 wr hT3 (fun x hx => H1.out.2.2.1 x (List.mem_of_mem_drop hx)) hd3
        rw [List.length_drop] at hMK hrun
        have HMK := Lib.hid hMK
        clear hMK
        have hk255 : k ≤ 255 := by have := H1.out.2.2.2.2.2; omega
        have HK := Lib.hid (And.intro hk255 hlt)
        clear hlen hT3 hd hd3 hk255 hlt
        go_wp2_with (fail)
        with_reducible refine (HMK.out).mono ?_
        rintro e w2 ⟨rfl, hb⟩
        have hsl2 := Lib.hid (hsl.out.below hb (fun g hg => hsl.out.lt g hg))
        have B2 := Lib.hid (hbw.out.trans (hb.mono hbw.out.size))
        clear hb hrun
        go_wp2_with (at_builtin; refine wpList_append_sl _ rfl (.tmp 20) (.tmp 25) 45 45 rfl 9 i0 (.string ⟨#[]⟩) 1 16 Try.underlying45 hi0 hz0 hz1 hz2 rfl u5 k (strs (U.take k)) rfl (hsl2.out.alloc _) _ rfl 1 [.string ⟨(mk (la.drop k)).toArray⟩] (src_new Try.underlying45 w2 _ _ rfl) (by have := HK.out.1; unfold maxLen; omega) (by have := HK.out.1; omega) ?_; intro v3 w3 hs3 hg3 hv3)
        have hsz2 := B2.out.size
        have hown3 := own_from hown.out (by simp; omega) hv3
        have hb3 : Below w1.heap.size w1 w3 := (B2.out.alloc hsz2 _).grown hg3 (by simp; omega) hown.out
        go_wp2_with (fail)
        go_roundg (la.length - k)
        case measure => have := hg.out; have := HK.out.2; omega
        case rel =>
          refine ⟨k + 1, (by show _ = _; have := hg.out; have := HK.out.2; omega), by go_num, ?_, hown3, hb3⟩
          show Sl _ _ _ _ _
          rw [← H1.out.2.2.2.2.1 k HK.out.2, strs_snoc]
          exact hs3
      · obtain rfl : k = la.length + 1 := by have := hg.out; omega
        have hltI : ¬ ((la.length + 1 : Nat) : Int) ≤ (la.length : Int) := by omega
        obtain ⟨A4, c4, rfl, _, _⟩ := hsl.out.shape
        have HE := Lib.hid (And.intro hsl.out (And.intro hown.out (B1.out.trans (hbw.out.mono B1.out.size))))
        clear hlt hsl hown
        go_wp2_with (fail)
        go_ret
        obtain ⟨hsl, hown, hbe⟩ := HE.out
        have e1 : U.take (la.length + 1) = U := List.take_of_length_le (by rw [H1.out.2.2.2.1]; omega)
        rw [e1] at hsl
        refine ⟨A4, c4, by rw [H1.out.2.2.2.1]; rfl, by rw [H1.out.2.2.2.1]; exact hsl, fun g hg => ?_, hbe⟩
        rw [H1.out.2.2.2.1] at hg
        exact Nat.le_trans B1.out.size (hown g hg)
end Go.Proofs.Ytjhhhkhcnohmiaa
