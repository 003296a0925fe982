/- The walk of package label's cut. -/
import Derived.Test.YtjhhhkhcnohmiaaBehind
import Derived.Test.YtjhhhkhcnohmiaaRef01
import Derived.Laws.BytesString
import Derived.Deep.DeepMust
import Derived.Laws.IdiomStrings
namespace Go.Proofs.Ytjhhhkhcnohmiaa
open Go.RowKit Go.Lib

/-- A slice whose values are told; nothing of it lay there before. -/
def CutPost (x : List Bs × Bool) (w : World) (e : Ending) (w' : World) : Prop :=
  ∃ A c, e = .returned (.tuple #[.slice A x.1.length c, .bool x.2]) ∧ Sl w' 1 (.slice A x.1.length c) x.1.length (strs x.1) ∧ (∀ g, (Value.slice A x.1.length c).ownBlock = some g → w.heap.size ≤ g) ∧ Below w.heap.size w w'
theorem cutPost_none {x : List Bs × Bool} {w : World} {V : World} (hx : x = ([], false)) (hb : Below w.heap.size w V) : CutPost x w (.returned (.tuple #[.slice none 0 0, .bool false])) V := by
  subst hx
  exact ⟨none, 0, rfl, Sl.nil _ _, fun g hg => by simp [Value.ownBlock] at hg, hb⟩
theorem src_val {P : Program} {tx e' : TypeId} (hk : P.underlying tx = some (.slice e')) (w : World) (t : TypeId) (u : Value) (h1 : u.oneCell' = true) : Src P 1 tx (.slice (some ⟨w.heap.size, 0, none⟩) 1 1) 1 [u] (w.alloc (.cells #[u] t)) := src_new hk w t u h1
theorem info_u8c : (Try.prog.info? 5).map (fun i => (i.zero, i.size, i.bytes)) = some (some (.int .u8 0), 1, 1) := by kernel_rfl
/-- The bytes of an owned slice as a string. -/
theorem sl_conv {w : World} {A : Option Addr} {c : Nat} {l : Bs} (h : Sl w 1 (.slice A l.length c) l.length (l.map b8)) (hp : 0 < l.length) :
    (convert 57 9 (.slice A l.length c)).run Try.prog w = .ok (.string ⟨l.toArray⟩) w := by
  obtain ⟨g, cap, hv, _, _, _, hc⟩ := h.form hp
  rw [hv]
  refine run_convert_bytes_back w _ _ _ ⟨g, 0, none⟩ cap l Try.underlying57 Try.underlying5 Try.underlying9 (fun j hj => ?_)
  have : (⟨g, 0, none⟩ : Addr).add j = ⟨g, j, none⟩ := by unfold Addr.add; split <;> simp_all
  rw [this]
  exact hc j _ (by rw [List.getElem?_map, List.getElem?_eq_getElem hj]; rfl)
theorem ext_toN (s : ByteArray) (n : Nat) : (s.extract n s.size).data.toList = s.data.toList.drop n := by
  rw [ByteArray.data_extract, Array.toList_extract, List.extract_eq_take_drop, List.take_of_length_le (by simp)]
/-- .. cut to nothing. -/
theorem Sl.none_ {w : World} {size n c : Nat} {A : Option Addr} {xs : List Value} (h : Sl w size (.slice A n c) n xs) (hn : 0 < n) : Sl w size (.slice A 0 c) 0 [] := by
  refine ⟨by simp, ?_⟩
  rcases h.2 with ⟨_, h0⟩ | ⟨g, cap, hv, h1, h2, h3, h4, _⟩
  · omega
  · injection hv with hA _ hc
    subst hA hc
    exact .inr ⟨g, c, rfl, h1, Nat.zero_le _, h3, h4, fun j u hu => by simp at hu⟩

set_option maxRecDepth 100000 in
set_option maxHeartbeats 8000000 in
theorem cut_any (s : ByteArray) (hs : s.size ≤ 1000000) (w : World) : Calls Try.prog 73 #[.string s] w (CutPost (cutR s.data.toList) w) := by
  obtain ⟨i0, hi0, hz0, hz1, hz2⟩ := info_parts info_str
  obtain ⟨i1, hi1, hy0, hy1, hy2⟩ := info_parts info_u8c
  have hlen : s.data.toList.length = s.size := by simp
  have hsI : (s.size : Int) ≤ 1000000 := by omega
  have HS := Lib.hid (And.intro hlen hs)
  obtain ⟨x, hx⟩ : ∃ x, cutR s.data.toList = x := ⟨_, rfl⟩
  rw [hx]
  have HX := Lib.hid hx
  clear hlen hs hx
  go_enter Try.func73, Try.ntmps73
  go_wp2_with (fail)
  go_loopg [4, 5, 6] s.size (fun g v4 v5 v6 wr => ∃ (a : Nat) (lab : Bs) (ls : List Bs) (A4 : Option Addr) (c4 : Nat) (A5 : Option Addr) (c5 : Nat), g + a = s.size ∧ a ≤ s.size ∧ v4 = .slice A4 ls.length c4 ∧ v5 = .slice A5 lab.length c5 ∧ v6 = .int .i64 (a : Int) ∧
    Aside (cutG (s.data.toList.drop a) lab ls = cutG s.data.toList [] []) ∧ Aside (lab.length + ls.length ≤ a) ∧ Aside (Sl wr 1 (.slice A4 ls.length c4) ls.length (strs ls)) ∧ Aside (Sl wr 1 (.slice A5 lab.length c5) lab.length (lab.map b8)) ∧
    Aside (∀ g, (Value.slice A4 ls.length c4).ownBlock = some g → w.heap.size ≤ g ∧ (Value.slice A5 lab.length c5).ownBlock ≠ some g) ∧ Aside (∀ g, (Value.slice A5 lab.length c5).ownBlock = some g → w.heap.size ≤ g) ∧ Aside (Below w.heap.size w wr))
  case atStart => exact ⟨0, [], [], none, 0, none, 0, by omega, by omega, rfl, rfl, rfl, (show Aside _ from rfl), (show Aside _ from Nat.le_refl _), Sl.nil _ _, Sl.nil _ _, (show Aside _ from fun g hg => by simp [Value.ownBlock] at hg), (show Aside _ from fun g hg => by simp [Value.ownBlock] at hg), Below.refl _ _⟩
  case round =>
    obtain ⟨a, lab, ls, A4, c4, A5, c5, hg, hale, rfl, rfl, rfl, hcut, hbd, hs4, hs5, ho4, ho5, hB⟩ := hrel
    by_cases hlt : a < s.size
    · have hltI : (a : Int) < (s.size : Int) := by omega
      have hdrop : s.data.toList.drop a = (s[a]'hlt) :: s.data.toList.drop (a + 1) := by
        rw [List.drop_eq_getElem_cons (by rw [HS.out.1]; exact hlt)]
        rfl
      have hstep := cutG_cons (s[a]'hlt) (s.data.toList.drop (a + 1)) lab ls
      rw [← hdrop, hcut.out] at hstep
      have hxx := HX.out
      unfold cutR at hxx
      have hb0 := hbd.out
      by_cases h46 : (s[a]'hlt) = 46
      · rw [if_pos h46] at hstep
        have e1 : (((s[a]'hlt).toNat : Int) == 46) = true := by rw [h46]; rfl
        by_cases hlab : lab = []
        · rw [if_pos hlab] at hstep
          subst hlab
          rw [hstep] at hxx
          have HXX := Lib.hid hxx.symm
          have hB' := Lib.hid hB.out
          clear hstep hxx hdrop h46 hcut hs4 hs5 ho4 ho5 hbd hb0
          go_wp2_with (fail)
          go_ret2
          exact cutPost_none HXX.out hB'.out
        · rw [if_neg hlab] at hstep
          have hp : 0 < lab.length := List.length_pos_iff.2 hlab
          have e2 : ((lab.length : Int) == 0) = false := by simp; omega
          have hcv := sl_conv hs5.out hp
          obtain ⟨g5, cap5, hv5, hg5, hcc5, hcm5, _⟩ := hs5.out.form hp
          injection hv5 with hA5 _ hc5
          subst hA5 hc5
          have hc5I : (0 : Int) ≤ (c5 : Int) := by omega
          have hsz := hB.out.size
          have HH := Lib.hid (And.intro hstep (And.intro hxx (And.intro hp (And.intro hb0 hsz))))
          clear hstep hxx hdrop h46 hlab hcc5 hcm5 hb0 hg5
          go_wp2_with (at_builtin; go_must (refine wpList_append_sl _ rfl (.tmp 21) (.tmp 24) 45 45 rfl 9 i0 (.string ⟨#[]⟩) 1 16 Try.underlying45 hi0 hz0 hz1 hz2 rfl (.slice A4 ls.length c4) ls.length (strs ls) rfl (hs4.out.alloc _) _ rfl 1 [.string ⟨lab.toArray⟩] (src_val Try.underlying45 wr _ _ rfl) (by have := HH.out.2.2.2.1; have := HS.out.2; unfold maxLen; omega) (by have := HH.out.2.2.2.1; have := HS.out.2; omega) ?_); intro v3 w3 hs3 hg3 hv3; obtain ⟨A3, c3, rfl, hc3, hm3⟩ := hs3.shape; have H3 := Lib.hid (And.intro hs3 (And.intro hg3 hv3)); clear hs3 hg3 hv3 hc3 hm3)
          obtain ⟨hstep, hxx, hp, hb0, hsz⟩ := HH.out
          obtain ⟨hs3, hg3, hv3⟩ := H3.out
          have hl1 : (ls ++ [lab]).length = ls.length + 1 := by simp
          rw [← hl1] at hs3 hv3 ⊢
          go_roundg (s.size - (a + 1))
          case measure => omega
          case rel =>
            have hs5' := (((hs5.out.alloc (.cells #[.string ⟨lab.toArray⟩] 9)).keep hg3.size (fun g e => hg3.block g (by have := hs5.out.lt g e; simp; omega) (fun e2 => (ho4.out g e2.symm).2 e))).none_ hp)
            refine ⟨a + 1, [], ls ++ [lab], A3, c3, some ⟨g5, 0, none⟩, c5, by omega, by omega, rfl, rfl, by go_num, hstep.symm, ?_, ?_, hs5', ?_, ho5, ?_⟩
            · show _ ≤ _; rw [hl1]; simp; omega
            · show Sl _ _ _ _ _; rw [strs_snoc]; exact hs3
            · show ∀ g, _
              intro g hgg
              rcases hv3 with e | e
              · exact ho4.out g (e ▸ hgg)
              · rw [hgg] at e
                have e3 := Option.some.inj e
                refine ⟨by simp at e3; omega, fun h => ?_⟩
                have h7 := hs5.out.lt g h
                simp at e3
                omega
            · exact (hB.out.alloc hsz _).grown hg3 (by simp; omega) (fun g e => (ho4.out g e).1)
      · rw [if_neg h46] at hstep
        have e1 : (((s[a]'hlt).toNat : Int) == 46) = false := by
          rw [beq_eq_false_iff_ne]
          intro h
          exact h46 (UInt8.toNat_inj.1 (by have : ((46 : UInt8).toNat : Int) = 46 := rfl; omega))
        have hsz := hB.out.size
        by_cases h92 : (s[a]'hlt) = 92
        · rw [if_pos h92] at hstep
          have e2 : (((s[a]'hlt).toNat : Int) == 92) = true := by rw [h92]; rfl
          have hbe := behindP_len (s.data.toList.drop (a + 1))
          have hBe := fun W => behind_any (s.extract (a + 1) s.size) (by rw [ByteArray.size_extract]; omega) W
          rw [ext_toN] at hBe
          obtain ⟨⟨y, n⟩, hyn⟩ : ∃ yn, behindP (s.data.toList.drop (a + 1)) = yn := ⟨_, rfl⟩
          rw [hyn] at hstep hbe hBe
          dsimp only at hstep hbe
          have HBe := Lib.hid hBe
          rw [List.length_drop, HS.out.1] at hbe
          have hbI : (a : Int) + 1 ≤ (s.size : Int) := by omega
          by_cases hn : n = 0
          · rw [if_pos hn] at hstep
            subst hn
            rw [hstep] at hxx
            have HXX := Lib.hid hxx.symm
            have hB' := Lib.hid hB.out
            clear hstep hxx hdrop h46 h92 hyn hcut hs4 hs5 ho4 ho5 hbd hb0 hBe hbe
            go_wp2_with (fail)
            refine (HBe.out _).mono ?_
            rintro e w2 ⟨rfl, rfl⟩
            go_wp2_with (fail)
            go_ret2
            exact cutPost_none HXX.out hB'.out
          · rw [if_neg hn] at hstep
            rw [List.drop_drop, show a + 1 + n = a + (n + 1) from by omega] at hstep
            have e3 : ((n : Int) == 0) = false := by simp; omega
            have hnI : (n : Int) ≤ 3 := by omega
            have hanI : (a : Int) + ((n : Int) + 1) ≤ (s.size : Int) := by omega
            have HH := Lib.hid (And.intro hstep (And.intro hxx (And.intro hb0 (And.intro hsz (show a + (n + 1) ≤ s.size from by omega)))))
            clear hstep hxx hdrop h46 h92 hyn hb0 hBe hbe hn
            go_wp2_with (fail)
            refine (HBe.out _).mono ?_
            rintro e w2 ⟨rfl, rfl⟩
            go_wp2_with (at_builtin; go_must (refine wpList_append_sl _ rfl (.tmp 50) (.tmp 52) 57 57 rfl 5 i1 (.int .u8 0) 1 1 Try.underlying57 hi1 hy0 hy1 hy2 rfl (.slice A5 lab.length c5) lab.length (lab.map b8) rfl (hs5.out.alloc _) _ rfl 1 [.int .u8 (y.toNat : Int)] (src_val Try.underlying57 wr _ _ rfl) (by have := HH.out.2.2.1; have := HS.out.2; unfold maxLen; omega) (by have := HH.out.2.2.1; have := HS.out.2; omega) ?_); intro v3 w3 hs3 hg3 hv3; obtain ⟨A3, c3, rfl, hc3, hm3⟩ := hs3.shape; have H3 := Lib.hid (And.intro hs3 (And.intro hg3 hv3)); clear hs3 hg3 hv3 hc3 hm3)
            obtain ⟨hstep, hxx, hb0, hsz, hnn⟩ := HH.out
            obtain ⟨hs3, hg3, hv3⟩ := H3.out
            have hl1 : (lab ++ [y]).length = lab.length + 1 := by simp
            rw [← hl1] at hs3 hv3 ⊢
            go_roundg (s.size - (a + (n + 1)))
            case measure => omega
            case rel =>
              have hs4' := (hs4.out.alloc (.cells #[.int .u8 (y.toNat : Int)] 5)).keep hg3.size (fun g e => hg3.block g (by have := hs4.out.lt g e; simp; omega) (fun e2 => (ho4.out g e).2 e2.symm))
              refine ⟨a + (n + 1), lab ++ [y], ls, A4, c4, A3, c3, by omega, by omega, rfl, rfl, by first | rfl | go_num, hstep.symm, ?_, hs4', ?_, ?_, ?_, ?_⟩
              · show _ ≤ _; rw [hl1]; omega
              · show Sl _ _ _ _ _; rw [List.map_append]; exact hs3
              · show ∀ g, _
                intro g hgg
                refine ⟨(ho4.out g hgg).1, fun h => ?_⟩
                rcases hv3 with e | e
                · exact (ho4.out g hgg).2 (e ▸ h)
                · rw [h] at e
                  have e3 := Option.some.inj e
                  have h7 := hs4.out.lt g hgg
                  simp at e3
                  omega
              · exact own_from ho5.out (by simp; omega) hv3
              · exact (hB.out.alloc hsz _).grown hg3 (by simp; omega) ho5.out
        · rw [if_neg h92] at hstep
          have e2 : (((s[a]'hlt).toNat : Int) == 92) = false := by
            rw [beq_eq_false_iff_ne]
            intro h
            exact h92 (UInt8.toNat_inj.1 (by have : ((92 : UInt8).toNat : Int) = 92 := rfl; omega))
          by_cases hbad : (s[a]'hlt).toNat < 33 ∨ 126 < (s[a]'hlt).toNat
          · rw [if_pos hbad] at hstep
            rw [hstep] at hxx
            have HXX := Lib.hid hxx.symm
            have hB' := Lib.hid hB.out
            have hcase : ((s[a]'hlt).toNat : Int) < 33 ∨ (¬ ((s[a]'hlt).toNat : Int) < 33 ∧ (126 : Int) < ((s[a]'hlt).toNat : Int)) := by omega
            clear hstep hxx hdrop h46 h92 hcut hs4 hs5 ho4 ho5 hbd hb0 hbad
            rcases hcase with q1 | ⟨q1, q2⟩
            all_goals
              go_wp2_with (fail)
              go_ret2
              exact cutPost_none HXX.out hB'.out
          · rw [if_neg hbad] at hstep
            have q1 : ¬ ((s[a]'hlt).toNat : Int) < 33 := by omega
            have q2 : ¬ (126 : Int) < ((s[a]'hlt).toNat : Int) := by omega
            have HH := Lib.hid (And.intro hstep (And.intro hxx (And.intro hb0 (And.intro hsz trivial))))
            clear hstep hxx hdrop h46 h92 hb0 hbad
            go_wp2_with (at_builtin; go_must (refine wpList_append_sl _ rfl (.tmp 50) (.tmp 52) 57 57 rfl 5 i1 (.int .u8 0) 1 1 Try.underlying57 hi1 hy0 hy1 hy2 rfl (.slice A5 lab.length c5) lab.length (lab.map b8) rfl (hs5.out.alloc _) _ rfl 1 [.int .u8 ((s[a]'hlt).toNat : Int)] (src_val Try.underlying57 wr _ _ rfl) (by have := HH.out.2.2.1; have := HS.out.2; unfold maxLen; omega) (by have := HH.out.2.2.1; have := HS.out.2; omega) ?_); intro v3 w3 hs3 hg3 hv3; obtain ⟨A3, c3, rfl, hc3, hm3⟩ := hs3.shape; have H3 := Lib.hid (And.intro hs3 (And.intro hg3 hv3)); clear hs3 hg3 hv3 hc3 hm3)
            obtain ⟨hstep, hxx, hb0, hsz, hnn⟩ := HH.out
            obtain ⟨hs3, hg3, hv3⟩ := H3.out
            have hl1 : (lab ++ [(s[a]'hlt)]).length = lab.length + 1 := by simp
            rw [← hl1] at hs3 hv3 ⊢
            go_roundg (s.size - (a + 1))
            case measure => omega
            case rel =>
              have hs4' := (hs4.out.alloc (.cells #[.int .u8 ((s[a]'hlt).toNat : Int)] 5)).keep hg3.size (fun g e => hg3.block g (by have := hs4.out.lt g e; simp; omega) (fun e2 => (ho4.out g e).2 e2.symm))
              refine ⟨a + 1, lab ++ [(s[a]'hlt)], ls, A4, c4, A3, c3, by omega, by omega, rfl, rfl, by go_num, hstep.symm, ?_, hs4', ?_, ?_, ?_, ?_⟩
              · show _ ≤ _; rw [hl1]; omega
              · show Sl _ _ _ _ _; rw [List.map_append]; exact hs3
              · show ∀ g, _
                intro g hgg
                refine ⟨(ho4.out g hgg).1, fun h => ?_⟩
                rcases hv3 with e | e
                · exact (ho4.out g hgg).2 (e ▸ h)
                · rw [h] at e
                  have e3 := Option.some.inj e
                  have h7 := hs4.out.lt g hgg
                  simp at e3
                  omega
              · exact own_from ho5.out (by simp; omega) hv3
              · exact (hB.out.alloc hsz _).grown hg3 (by simp; omega) ho5.out
    · obtain rfl : a = s.size := by omega
      have hxx := HX.out
      unfold cutR at hxx
      rw [← hcut.out, List.drop_of_length_le (by rw [HS.out.1]; exact Nat.le_refl _), cutG_nil] at hxx
      have hb0 := hbd.out
      have hsz := hB.out.size
      by_cases hlab : lab = []
      · subst hlab
        have hxx2 : x = (ls, !ls.isEmpty) := by rw [← hxx]; rfl
        have HXX := Lib.hid (And.intro hxx2 (And.intro hs4.out (And.intro ho4.out hB.out)))
        clear hxx hxx2 hs4 hs5 ho4 ho5 hB hcut hbd
        by_cases hls : ls = []
        · subst hls
          go_wp2_with (fail)
          go_ret2
          rw [HXX.out.1]
          exact ⟨A4, c4, rfl, HXX.out.2.1, fun g hg => (HXX.out.2.2.1 g hg).1, HXX.out.2.2.2⟩
        · have hp : 0 < ls.length := List.length_pos_iff.2 hls
          have hpI : (0 : Int) < (ls.length : Int) := by omega
          have HP := Lib.hid (show (!ls.isEmpty) = true from by simpa using hls)
          go_wp2_with (fail)
          go_ret2
          rw [HXX.out.1, HP.out]
          refine ⟨A4, c4, ?_, HXX.out.2.1, fun g hg => (HXX.out.2.2.1 g hg).1, HXX.out.2.2.2⟩
          simp [hp]
      · have hp : 0 < lab.length := List.length_pos_iff.2 hlab
        have hpI : (0 : Int) < (lab.length : Int) := by omega
        have hxx2 : x = (ls ++ [lab], true) := by rw [← hxx]; simp [cutE, hlab]
        have hcv := sl_conv hs5.out hp
        have HH := Lib.hid (And.intro hxx2 (And.intro hb0 hsz))
        clear hxx hxx2 hb0 hlab
        go_wp2_with (at_builtin; go_must (refine wpList_append_sl _ rfl (.tmp 60) (.tmp 63) 45 45 rfl 9 i0 (.string ⟨#[]⟩) 1 16 Try.underlying45 hi0 hz0 hz1 hz2 rfl (.slice A4 ls.length c4) ls.length (strs ls) rfl (hs4.out.alloc _) _ rfl 1 [.string ⟨lab.toArray⟩] (src_val Try.underlying45 wr _ _ rfl) (by have := HH.out.2.1; have := HS.out.2; unfold maxLen; omega) (by have := HH.out.2.1; have := HS.out.2; omega) ?_); intro v3 w3 hs3 hg3 hv3; obtain ⟨A3, c3, rfl, hc3, hm3⟩ := hs3.shape; have H3 := Lib.hid (And.intro hs3 (And.intro hg3 hv3)); clear hs3 hg3 hv3 hc3 hm3)
        obtain ⟨hxx2, hb0, hsz⟩ := HH.out
        obtain ⟨hs3, hg3, hv3⟩ := H3.out
        go_ret2
        rw [hxx2]
        have hl1 : (ls ++ [lab]).length = ls.length + 1 := by simp
        refine ⟨A3, c3, ?_, ?_, ?_, (hB.out.alloc hsz _).grown hg3 (by simp; omega) (fun g e => (ho4.out g e).1)⟩
        · rw [hl1]
          simp
        · rw [hl1, strs_snoc]; exact hs3
        · rw [hl1]
          exact own_from (fun g e => (ho4.out g e).1) (by simp; omega) hv3
end Go.Proofs.Ytjhhhkhcnohmiaa
