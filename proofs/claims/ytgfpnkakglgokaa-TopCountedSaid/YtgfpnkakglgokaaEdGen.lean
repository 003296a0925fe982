/- Options as bytes. Plain: no program in sight. Conditions: none. The walks of edns.options, as an iterator, at right data. Conditions: none. The walk of edns.options, as an iterator, at whatever data. Conditions: none. The walk of edns.Get at whatever message. Conditions: none. -/
import Derived.Test.YtgfpnkakglgokaaOpt
import Derived.Test.YtgfpnkakglgokaaReaderN
import Derived.Test.YtgfpnkakglgokaaRangeM
import Derived.RangeFuncNested
import Derived.RangeFuncBound
import Derived.RangeFuncCalls
import Derived.RangeFuncLeaves
import Derived.RangeFuncBox
import Derived.RangeFuncFrom
import Derived.Shelf.Abstract
import Derived.Shelf.RegionOpen
import Derived.Shelf.AbstractIn
import Derived.TacticsInMore
import Derived.LoopNIn
import Derived.LoopIn
import Derived.Sort.LoopGhostIn
import Derived.Sort.QuietIn
import Derived.Stop.RegionWithIn
import Derived.Deep.LoopGhost
import Derived.Test.YtgfpnkakglgokaaMsgM
import Derived.Deep.DeepMust
import Derived.WalkMore
namespace Go.Proofs.Ytgfpnkakglgokaa

theorem beN_bigB2 {n : Nat} (h : n < 65536) : beN (bigB n 2) = n := by
  have e : bigB n 2 = [bigI n 6, bigI n 7] := rfl
  rw [e]
  simp only [beN, List.foldl_cons, List.foldl_nil, bigI_toNat, Nat.reduceSub, Nat.reducePow]
  omega
/-- An option's bytes. -/
def optB (o : Opt) : List UInt8 := bigB o.c.toNat 2 ++ (bigB o.d.size 2 ++ o.d.data.toList)
def optsB (xs : List Opt) : List UInt8 := xs.flatMap optB
def Opt.fits (o : Opt) : Prop := (0 ≤ o.c ∧ o.c ≤ 65535) ∧ o.d.size ≤ 65535
theorem optB_length (o : Opt) : (optB o).length = 4 + o.d.size := by
  have : o.d.data.toList.length = o.d.size := by simp
  unfold optB; rw [List.length_append, List.length_append, bigB_length, bigB_length, this]; omega
theorem optsB_snoc (xs : List Opt) (o : Opt) : optsB (xs ++ [o]) = optsB xs ++ optB o := by unfold optsB; simp
theorem optsB_take {xs : List Opt} {k : Nat} {o : Opt} (hk : xs[k]? = some o) : optsB (xs.take (k + 1)) = optsB (xs.take k) ++ optB o := by
  have h := (List.getElem?_eq_some_iff.1 hk)
  obtain ⟨h1, h2⟩ := h
  rw [List.take_succ_eq_append_getElem h1, h2, optsB_snoc]
theorem optsB_split {xs : List Opt} {k : Nat} {o : Opt} (hk : xs[k]? = some o) : ∃ r, optsB xs = optsB (xs.take k) ++ (optB o ++ r) := by
  refine ⟨optsB (xs.drop (k + 1)), ?_⟩
  have h1 := (List.getElem?_eq_some_iff.1 hk).1
  conv => lhs; rw [← List.take_append_drop (k + 1) xs]
  rw [← List.append_assoc, ← optsB_take hk]
  unfold optsB; rw [List.flatMap_append]
theorem ext_toL (s : ByteArray) (i j : Nat) : (s.extract i j).data.toList = (s.data.toList.drop i).take (j - i) := by
  rw [ByteArray.data_extract, Array.toList_extract, List.extract_eq_take_drop]
theorem ba_of_toList {a b : ByteArray} (h : a.data.toList = b.data.toList) : a = b := by
  apply ByteArray.ext
  exact Array.toList_inj.1 h
/-- Where the k-th option begins. -/
def optAt (xs : List Opt) (k : Nat) : Nat := (optsB (xs.take k)).length
theorem optAt_zero (xs : List Opt) : optAt xs 0 = 0 := rfl
/-- What stands at the place of an option. -/
theorem opt_at {s : ByteArray} {xs : List Opt} {k : Nat} {o : Opt} (hs : s.data.toList = optsB xs) (hk : xs[k]? = some o) (hf : o.fits) :
    (beN (s.extract (optAt xs k) (optAt xs k + 2)).data.toList : Int) = o.c ∧ beN (s.extract (optAt xs k + 2) (optAt xs k + 2 + 2)).data.toList = o.d.size ∧
      s.extract (optAt xs k + 2 + 2) (optAt xs k + 2 + 2 + o.d.size) = o.d ∧ optAt xs k + 2 + 2 + o.d.size ≤ s.size ∧ optAt xs (k + 1) = optAt xs k + 2 + 2 + o.d.size := by
  obtain ⟨r, hr⟩ := optsB_split hk
  have hl : s.size = (optsB xs).length := by rw [← hs]; simp
  have hd : o.d.data.toList.length = o.d.size := by simp
  have hp : optAt xs k = (optsB (xs.take k)).length := rfl
  have ho := optB_length o
  rw [hr] at hs hl
  rw [List.length_append, List.length_append, ho] at hl
  have hdrop : s.data.toList.drop (optAt xs k) = bigB o.c.toNat 2 ++ (bigB o.d.size 2 ++ (o.d.data.toList ++ r)) := by
    rw [hs, hp, List.drop_left]
    unfold optB
    simp only [List.append_assoc]
  have hdrop2 : s.data.toList.drop (optAt xs k + 2) = bigB o.d.size 2 ++ (o.d.data.toList ++ r) := by
    rw [← List.drop_drop, hdrop, List.drop_left' (bigB_length _ _)]
  have hdrop4 : s.data.toList.drop (optAt xs k + 2 + 2) = o.d.data.toList ++ r := by
    rw [← List.drop_drop, hdrop2, List.drop_left' (bigB_length _ _)]
  refine ⟨?_, ?_, ?_, ?_, ?_⟩
  · rw [ext_toL, hdrop, show optAt xs k + 2 - optAt xs k = 2 by omega, List.take_left' (bigB_length _ _), beN_bigB2 (by have := hf.1; omega)]
    have := hf.1; omega
  · rw [ext_toL, hdrop2, show optAt xs k + 2 + 2 - (optAt xs k + 2) = 2 by omega, List.take_left' (bigB_length _ _), beN_bigB2 (by have := hf.2; omega)]
  · apply ba_of_toList
    rw [ext_toL, hdrop4, show optAt xs k + 2 + 2 + o.d.size - (optAt xs k + 2 + 2) = o.d.size by omega, List.take_left' hd]
  · omega
  · show (optsB (xs.take (k + 1))).length = _
    rw [optsB_take hk, List.length_append, ho, hp]; omega
theorem optAt_end {s : ByteArray} {xs : List Opt} (hs : s.data.toList = optsB xs) : optAt xs xs.length = s.size := by
  unfold optAt; rw [List.take_length, ← hs]; simp
theorem optAt_in {s : ByteArray} {xs : List Opt} (hs : s.data.toList = optsB xs) {k : Nat} (hk : k < xs.length) : optAt xs k < s.size := by
  obtain ⟨r, hr⟩ := optsB_split (List.getElem?_eq_getElem hk)
  have hl : s.size = (optsB xs).length := by rw [← hs]; simp
  rw [hr, List.length_append, List.length_append, optB_length] at hl
  unfold optAt; omega
end Go.Proofs.Ytgfpnkakglgokaa

namespace Go.Proofs.Ytgfpnkakglgokaa
open Go.RowKit Go.Shelf
attribute [local go_sem] Oper.semAt_some

theorem Out.of_butE {B X R : Nat} {U V : World} (h : But R U V) (hR : B ≤ R ∧ R < X) : Out B X U V :=
  ⟨h.os, h.tape, h.output, h.size, fun i hi ho => h.block i ⟨hi, by omega⟩⟩
set_option maxRecDepth 100000 in
theorem rLeftE_any {w : World} {b : Nat} {s : ByteArray} {at' : Nat} (h : Rd w b s at' false) (hs : s.size ≤ 140737488355328) (ha : at' ≤ s.size) :
    Calls Try.prog 37 #[.pointer (some ⟨b, 0, none⟩)] w fun e w' => e = .returned (.int .i64 ((s.size - at' : Nat) : Int)) ∧ Rd w' b s at' false ∧ But b w w' := by
  have H := Lib.hid (rBad_any h)
  have HR := Lib.hid h
  have c0 : w.cell? ⟨b, 0, none⟩ = some (.string s) := Blk.cell h 0
  have c1 : w.cell? ⟨b, 1, none⟩ = some (.int .i64 (at' : Int)) := Blk.cell h 1
  have e1 : IntKind.i64.wrap ((s.size : Int) - (at' : Int)) = ((s.size - at' : Nat) : Int) := by rw [IntWalk.i64_in _ (by omega)]; omega
  clear h hs ha
  go_enter Try.func37, Try.ntmps37
  go_wp2_with (fail)
  with_reducible refine H.out.mono ?_
  rintro e w' ⟨rfl, rfl⟩
  go_wp2_with (fail)
  go_quiet (fail)
  go_wp2_with (fail)
  go_ret
  exact ⟨rfl, HR.out, (KeepK.refl _ _).drewN _⟩

theorem options_in (n : Nat) (s : ByteArray) (w : World) :
    CallsIn Fence.wide n Try.prog 41 #[.string s] w fun e w' => e = .returned (.func (.func 61) #[] #[.pointer (some ⟨w.heap.size, 0, none⟩)]) ∧ w' = w.alloc (.cells #[.string s] 9) := by
  refine callsIn_of_wp Try.func41 rfl trivial ?_ rfl
  simp only [Try.ntmps41, List.size_toArray, List.length_cons, List.length_nil, Nat.reduceAdd, Nat.reduceSub, Array.replicate_succ, Array.replicate_zero, List.push_toArray, List.append_toArray, List.nil_append, List.cons_append]
  gi_wp2
  go_ret
  exact ⟨rfl, rfl⟩

set_option maxRecDepth 100000 in
set_option maxHeartbeats 2000000 in
theorem options1_M (Bs : Nat) (s : ByteArray) (xs : List Opt) (hxs : s.data.toList = optsB xs) (hf : ∀ o ∈ xs, o.fits) (hs : s.size ≤ 1000000) (w : World) (hc : Blk w Bs 9 #[.string s]) :
    SeqM Try.prog 61 #[.pointer (some ⟨Bs, 0, none⟩)] (fun o : Opt => #[Value.agg #[.int .u16 o.c, .string o.d], .bool true]) Bs (Bs + 1) xs w := by
  intro m l J Jx W hW hJ hJx hY h0
  obtain ⟨n, hn⟩ : ∃ n : Nat, 8 ≤ n := ⟨8, by omega⟩
  refine callsIn_wide.2 ((callsIn_wide (n := n)).1 ?_)
  have h1n : 1 ≤ n := by omega
  have hBs : Bs < w.heap.size := hc.lt
  have hws := hW.size
  have bs : Blk W Bs 9 #[.string s] := hc.below hW hBs
  have hOp := fun V => (callsIn_wide (n := n - 1)).2 (rOpen_any s V)
  have c0 : W.cell? ⟨Bs, 0, none⟩ = some (.string s) := bs.cell 0
  have HB := Lib.hid (And.intro bs (show s.size ≤ maxLen by unfold maxLen; omega))
  have HX := Lib.hid (And.intro hxs (And.intro hf hs))
  have HO := Lib.hid hOp
  clear bs hs hc hOp hxs hf
  refine callsIn_of_wp Try.func61 rfl trivial ?_ rfl
  simp only [Try.ntmps61, List.size_toArray, List.length_cons, List.length_nil, Nat.reduceAdd, Nat.reduceSub, Array.replicate_succ, Array.replicate_zero, List.push_toArray, List.append_toArray, List.nil_append, List.cons_append]
  gi_wp2_with (refine ⟨trivial, ?_⟩; gi_at_call 32; refine (HO.out _).mono ?_; rintro r w1 ⟨rfl, hRd, hb1⟩)
  have hw1 := hb1.size
  have hRlt := hRd.lt
  obtain ⟨X, hX⟩ : ∃ X, w1.heap.size = X := ⟨_, rfl⟩
  have hJ0 := h0 _ w1 hb1 hX
  have bs1 : Blk w1 Bs 9 #[.string s] := HB.out.1.below hb1 HB.out.1.lt
  have HJ := Lib.hid (And.intro hJ0 (And.intro hRd bs1))
  have HK := Lib.hid (And.intro hJ (And.intro hJx hY))
  have hXR : W.heap.size < X := by omega
  clear hJ0 hRd bs1 h0 hJ hJx hY hb1 c0 hRlt
  gi_loopg [4, 5] (xs.length + 1) (fun g _ _ wr => ∃ k : Nat, g + k = xs.length + 1 ∧ k ≤ xs.length ∧ Aside (J X (xs.take k) wr) ∧ Aside (Rd wr W.heap.size s (optAt xs k) false) ∧ Aside (Blk wr Bs 9 #[.string s]))
  case atStart => exact ⟨0, by omega, Nat.zero_le _, HJ.out.1, HJ.out.2.1, HJ.out.2.2⟩
  case round =>
    obtain ⟨k, hg, hkl, hj, hR, hS⟩ := hrel
    by_cases hlt : k < xs.length
    · obtain ⟨o, ho⟩ : ∃ o, xs[k]? = some o := ⟨_, List.getElem?_eq_getElem hlt⟩
      have hof := HX.out.2.1 o (List.mem_of_getElem? ho)
      obtain ⟨q1, q2, q3, q4, q5⟩ := opt_at HX.out.1 ho hof
      have hin := optAt_in HX.out.1 hlt
      obtain ⟨p, hp⟩ : ∃ p, optAt xs k = p := ⟨_, rfl⟩
      rw [hp] at q1 q2 q3 q4 q5 hR hin
      have hL := (callsIn_wide (n := n - 1)).2 (rLeftE_any hR.out (by have := HX.out.2.2; omega) (by omega))
      obtain ⟨lf, hlf⟩ : ∃ lf : Nat, s.size - p = lf := ⟨_, rfl⟩
      rw [hlf] at hL
      have hlfp : (0 : Int) < (lf : Int) := by omega
      have HL := Lib.hid hL
      have hN1 : ∀ V, Rd V W.heap.size s p false → _ := fun V hV => (callsIn_wide (n := n - 1)).2 (rNum_yes hV 2 (.inr (.inl rfl)) HB.out.2 (by omega))
      rw [q1] at hN1
      have hN2 : ∀ V, Rd V W.heap.size s (p + 2) false → _ := fun V hV => (callsIn_wide (n := n - 1)).2 (rNum_yes hV 2 (.inr (.inl rfl)) HB.out.2 (by omega))
      rw [q2] at hN2
      have hRaw : ∀ V, Rd V W.heap.size s (p + 2 + 2) false → _ := fun V hV => (callsIn_wide (n := n - 1)).2 (rRaw_yes hV o.d.size HB.out.2 q4)
      rw [q3] at hRaw
      have HN1 := Lib.hid hN1
      have HN2 := Lib.hid hN2
      have HRaw := Lib.hid hRaw
      have HP := Lib.hid (And.intro ho (And.intro q5 (And.intro hp hlt)))
      have hcb : 0 ≤ o.c ∧ o.c ≤ 65535 := hof.1
      have hdb : (o.d.size : Int) ≤ 65535 := by have := hof.2; omega
      clear hL hN1 hN2 hRaw q1 q2 q3 q4 q5 hp ho hlt hlf hin hof
      gi_wp2_with (fail)
      refine ⟨trivial, HL.out.mono ?_⟩
      rintro r v1 ⟨rfl, hR1, hB1⟩
      gi_wp2_with (fail)
      refine ⟨trivial, (HN1.out _ hR1).mono ?_⟩
      rintro r v2 ⟨rfl, hR2, hB2⟩
      gi_wp2_with (fail)
      refine ⟨trivial, (HN2.out _ hR2).mono ?_⟩
      rintro r v3 ⟨rfl, hR3, hB3⟩
      gi_wp2_with (fail)
      refine ⟨trivial, (HRaw.out _ hR3).mono ?_⟩
      rintro r v4 ⟨rfl, hR4, hB4⟩
      have hB14 := ((hB1.trans hB2).trans hB3).trans hB4
      have bs4 := hB14.blk hS.out (by omega)
      have hJ4 := HK.out.1 X _ _ _ hj.out (Out.of_butE hB14 ⟨Nat.le_refl _, hXR⟩)
      have hpre : xs.take k ++ [o] = xs.take (k + 1) := by
        obtain ⟨hl, he⟩ := List.getElem?_eq_some_iff.1 HP.out.1
        rw [List.take_succ_eq_append_getElem hl, he]
      have hyld := HK.out.2.2 X _ o v4 hJ4 (by rw [hpre]; exact List.take_prefix _ _)
      rw [hpre] at hyld
      obtain ⟨fn, tmps, assign, body, hy, hRR⟩ := yield_deep (m := n - 1) hyld
      have hRR2 := hRR.mono (R' := fun e W' => ∃ b, e = .returned (.bool b) ∧ ((b = true ∧ J X (xs.take (k + 1)) W' ∧ KeepX W.heap.size X Bs (Bs + 1) v4 W') ∨ (b = false ∧ Jx X (xs.take (k + 1)) W'))) (by
        rintro e W' (⟨rfl, h1, h2⟩ | ⟨rfl, h1, _⟩)
        · exact ⟨true, rfl, .inl ⟨rfl, h1, h2⟩⟩
        · exact ⟨false, rfl, .inr ⟨rfl, h1⟩⟩)
      have hBad := Lib.hid ((callsIn_wide (n := n - 1)).2 (rBad_any hR4))
      have HE := Lib.hid (And.intro hR4 bs4)
      have HY := Lib.hid hRR2
      clear hR1 hR2 hR3 hR4 hB1 hB2 hB3 hB4 hB14 bs4 hJ4 hpre hyld hRR hRR2
      gi_wp2_with (fail)
      refine ⟨trivial, hBad.out.mono ?_⟩
      rintro r v5 ⟨rfl, rfl⟩
      gi_wp2_with (fail)
      refine (HY.out).mono ?_
      rintro r v6 ⟨b, rfl, hd⟩
      · rcases hd with ⟨rfl, hJ3, hK3⟩ | ⟨rfl, hJx3⟩
        · have h3 := HE.out
          have R3 : Rd _ W.heap.size s (p + 2 + 2 + o.d.size) false := (hK3.same _ (by have := h3.1.lt; exact this) (.inl ⟨Nat.le_refl _, hXR⟩)).trans h3.1
          have S3 : Blk _ Bs 9 #[.string s] := (hK3.same _ (by have := h3.2.lt; exact this) (.inr ⟨Nat.le_refl _, by omega⟩)).trans h3.2
          have H3 := Lib.hid (And.intro hJ3 (And.intro R3 S3))
          clear hJ3 hK3 R3 S3 h3
          gi_wp2_with (fail)
          gi_roundg (xs.length + 1 - (k + 1))
          case measure => have := HP.out.2.2.2; omega
          case rel =>
            have hlt := HP.out.2.2.2
            refine ⟨k + 1, by omega, by omega, H3.out.1, ?_, H3.out.2.2⟩
            show Rd _ _ _ _ _
            rw [HP.out.2.1]
            exact H3.out.2.1
        · gi_wp2_with (fail)
          refine bodyPost_ret (results_none rfl _ _ _) rfl ?_
          exact ⟨⟨_, rfl⟩, _, .inr ⟨_, List.take_prefix _ _, hJx3⟩⟩
    · obtain rfl : k = xs.length := by omega
      rw [List.take_length] at hj
      have hend := optAt_end HX.out.1
      rw [hend] at hR
      have hL := (callsIn_wide (n := n - 1)).2 (rLeftE_any hR.out (by have := HX.out.2.2; omega) (Nat.le_refl _))
      rw [Nat.sub_self] at hL
      have HL := Lib.hid hL
      clear hL hend hlt
      gi_wp2_with (fail)
      refine ⟨trivial, HL.out.mono ?_⟩
      rintro r v1 ⟨rfl, hR1, hB1⟩
      have H1 := Lib.hid hB1
      clear hR1 hB1
      gi_wp2_with (fail)
      refine bodyPost_end (results_none rfl _ _ _) rfl ?_
      exact ⟨⟨_, rfl⟩, _, .inl (HK.out.1 X _ _ _ hj.out (Out.of_butE H1.out ⟨Nat.le_refl _, hXR⟩))⟩
end Go.Proofs.Ytgfpnkakglgokaa

namespace Go.Proofs.Ytgfpnkakglgokaa
open Go.RowKit Go.Shelf
attribute [local go_sem] Oper.semAt_some

theorem numM_ok {l : Bs} {st : Nat × Bool} {k : Nat} (h : (numM l st k).2.2 = false) : st.2 = false ∧ (numM l st k).2.1 = st.1 + k ∧ k ≤ l.length - st.1 := by
  unfold numM at h ⊢
  split at h
  · rename_i hb
    rw [hb] at h
    cases h
  · rename_i hb
    split at h
    · rename_i hk
      rw [if_neg hb, if_pos hk]
      exact ⟨by simpa using hb, rfl, hk⟩
    · cases h
theorem rawM_ok {l : Bs} {st : Nat × Bool} {k : Nat} (h : (rawM l st k).2.2 = false) : st.2 = false ∧ (rawM l st k).2.1 = st.1 + k ∧ k ≤ l.length - st.1 := by
  unfold rawM at h ⊢
  split at h
  · rename_i hb
    rw [hb] at h
    cases h
  · rename_i hb
    split at h
    · rename_i hk
      rw [if_neg hb, if_pos hk]
      exact ⟨by simpa using hb, rfl, hk⟩
    · cases h
/-- One option, read at a place. -/
def optRd (l : Bs) (p : Nat) : Opt × (Nat × Bool) :=
  (⟨((numM l (p, false) 2).1 : Int), ⟨(rawM l (numM l (numM l (p, false) 2).2 2).2 (numM l (numM l (p, false) 2).2 2).1).1.toArray⟩⟩, (rawM l (numM l (numM l (p, false) 2).2 2).2 (numM l (numM l (p, false) 2).2 2).1).2)
theorem optRd_ok {l : Bs} {p : Nat} (h : (optRd l p).2.2 = false) : p + 4 ≤ (optRd l p).2.1 ∧ (optRd l p).2.1 ≤ l.length := by
  obtain ⟨h1, h2, h3⟩ := rawM_ok (st := (numM l (numM l (p, false) 2).2 2).2) (show (rawM l (numM l (numM l (p, false) 2).2 2).2 (numM l (numM l (p, false) 2).2 2).1).2.2 = false from h)
  obtain ⟨h4, h5, h6⟩ := numM_ok (st := (numM l (p, false) 2).2) h1
  obtain ⟨_, h8, h9⟩ := numM_ok (st := (p, false)) h4
  have e : (optRd l p).2.1 = (numM l (numM l (p, false) 2).2 2).2.1 + (numM l (numM l (p, false) 2).2 2).1 := h2
  have h8' : (numM l (p, false) 2).2.1 = p + 2 := h8
  have h9' : 2 ≤ l.length - p := h9
  omega
theorem optRd_fit (l : Bs) (p : Nat) : (0 ≤ (optRd l p).1.c ∧ (optRd l p).1.c ≤ 65535) ∧ (optRd l p).1.d.size ≤ 65535 := by
  have h1 := num2_lt l (p, false)
  have h2 := num2_lt l (numM l (p, false) 2).2
  have h3 := rawM_len l (numM l (numM l (p, false) 2).2 2).2 (numM l (numM l (p, false) 2).2 2).1
  refine ⟨⟨by show (0 : Int) ≤ ((numM l (p, false) 2).1 : Int); omega, by show ((numM l (p, false) 2).1 : Int) ≤ 65535; omega⟩, ?_⟩
  show (rawM l (numM l (numM l (p, false) 2).2 2).2 (numM l (numM l (p, false) 2).2 2).1).1.toArray.size ≤ 65535
  simp
  omega
/-- The options that bytes are, from a place on; none where they are none. -/
def optL (l : Bs) : Nat → Nat → List (Option Opt)
  | 0, _ => []
  | f + 1, p => if l.length - p = 0 then [] else if (optRd l p).2.2 = true then [none] else some (optRd l p).1 :: optL l f (optRd l p).2.1
theorem optL_end {l : Bs} {f p : Nat} (h : l.length - p = 0) : optL l (f + 1) p = [] := by unfold optL; rw [if_pos h]
theorem optL_bad {l : Bs} {f p : Nat} (h : ¬ l.length - p = 0) (hb : (optRd l p).2.2 = true) : optL l (f + 1) p = [none] := by unfold optL; rw [if_neg h, if_pos hb]
theorem optL_some {l : Bs} {f p : Nat} (h : ¬ l.length - p = 0) (hb : (optRd l p).2.2 = false) : optL l (f + 1) p = some (optRd l p).1 :: optL l f (optRd l p).2.1 := by
  conv => lhs; unfold optL
  rw [if_neg h, if_neg (by rw [hb]; decide)]
theorem optL_len (l : Bs) : ∀ (f p : Nat), (optL l f p).length ≤ f
  | 0, _ => Nat.le_refl _
  | f + 1, p => by
    unfold optL
    split
    · exact Nat.zero_le _
    · split
      · simp
      · have := optL_len l f (optRd l p).2.1
        simp
        omega
theorem optL_fit (l : Bs) : ∀ (f p : Nat) (o : Opt), some o ∈ optL l f p → (0 ≤ o.c ∧ o.c ≤ 65535) ∧ o.d.size ≤ 65535
  | 0, _, o, h => by simp [optL] at h
  | f + 1, p, o, h => by
    unfold optL at h
    split at h
    · cases h
    · split at h
      · simp at h
      · rcases List.mem_cons.1 h with h | h
        · injection h with h
          rw [h]
          exact optRd_fit l p
        · exact optL_fit l f _ o h
/-- What the round is handed. -/
def oOf : Option Opt → Opt
  | some o => o
  | none => ⟨0, ⟨#[]⟩⟩
def encO (x : Option Opt) : Array Value := #[.agg #[.int .u16 (oOf x).c, .string (oOf x).d], .bool x.isSome]

set_option maxRecDepth 100000 in
set_option maxHeartbeats 2000000 in
theorem options1_G (Bs : Nat) (s : ByteArray) (hs : s.size ≤ 1000000) (w : World) (hc : Blk w Bs 9 #[.string s]) :
    SeqM Try.prog 61 #[.pointer (some ⟨Bs, 0, none⟩)] encO Bs (Bs + 1) (optL s.data.toList (s.size + 1) 0) w := by
  intro m l J Jx W hW hJ hJx hY h0
  obtain ⟨L, hL⟩ : ∃ L, optL s.data.toList (s.size + 1) 0 = L := ⟨_, rfl⟩
  have HLL := Lib.hid hL
  rw [hL] at hY ⊢
  clear hL
  obtain ⟨n, hn⟩ : ∃ n : Nat, 8 ≤ n := ⟨8, by omega⟩
  refine callsIn_wide.2 ((callsIn_wide (n := n)).1 ?_)
  have h1n : 1 ≤ n := by omega
  have hBs : Bs < w.heap.size := hc.lt
  have hws := hW.size
  have bs : Blk W Bs 9 #[.string s] := hc.below hW hBs
  have hOp := fun V => (callsIn_wide (n := n - 1)).2 (rOpen_any s V)
  have c0 : W.cell? ⟨Bs, 0, none⟩ = some (.string s) := bs.cell 0
  have hsl : s.data.toList.length = s.size := by simp
  have hsp : s.size ≤ 140737488355328 := by omega
  have HB := Lib.hid (And.intro bs hs)
  have HO := Lib.hid hOp
  clear bs hs hc hOp
  refine callsIn_of_wp Try.func61 rfl trivial ?_ rfl
  simp only [Try.ntmps61, List.size_toArray, List.length_cons, List.length_nil, Nat.reduceAdd, Nat.reduceSub, Array.replicate_succ, Array.replicate_zero, List.push_toArray, List.append_toArray, List.nil_append, List.cons_append]
  gi_wp2_with (refine ⟨trivial, ?_⟩; gi_at_call 32; refine (HO.out _).mono ?_; rintro r w1 ⟨rfl, hRd, hb1⟩)
  have hw1 := hb1.size
  have hRlt := hRd.lt
  obtain ⟨X, hX⟩ : ∃ X, w1.heap.size = X := ⟨_, rfl⟩
  have hJ0 := h0 _ w1 hb1 hX
  have bs1 : Blk w1 Bs 9 #[.string s] := HB.out.1.below hb1 HB.out.1.lt
  have HJ := Lib.hid (And.intro hJ0 (And.intro hRd bs1))
  have HK := Lib.hid (And.intro hJ (And.intro hJx hY))
  have hXR : W.heap.size < X := by omega
  clear hJ0 hRd bs1 h0 hJ hJx hY hb1 c0 hRlt
  gi_loopg [4, 5] (s.size + 1) (fun g _ _ wr => ∃ (pre : List (Option Opt)) (p : Nat), pre ++ optL s.data.toList g p = L ∧ s.size - p < g ∧ p ≤ s.size ∧ Aside (J X pre wr) ∧ Aside (Rd wr W.heap.size s p false) ∧ Aside (Blk wr Bs 9 #[.string s]))
  case atStart => exact ⟨[], 0, HLL.out, by omega, Nat.zero_le _, HJ.out.1, HJ.out.2.1, HJ.out.2.2⟩
  case round =>
    obtain ⟨pre, p, hpre, hg, hps, hj, hR, hS⟩ := hrel
    obtain ⟨lf, hlf⟩ : ∃ lf : Nat, s.size - p = lf := ⟨_, rfl⟩
    have hL := (callsIn_wide (n := n - 1)).2 (rLeftE_any hR.out hsp hps)
    rw [hlf] at hL
    have HL := Lib.hid hL
    obtain ⟨g', rfl⟩ : ∃ g', gk = g' + 1 := ⟨gk - 1, by omega⟩
    by_cases hlt : 0 < lf
    · have hltI : (0 : Int) < (lf : Int) := by omega
      have hne : ¬ s.data.toList.length - p = 0 := by rw [hsl]; omega
      have HP := Lib.hid (And.intro hpre (And.intro hne (And.intro hlf (And.intro hg hj.out))))
      have HRS := Lib.hid (And.intro hR.out hS.out)
      have hrd : (⟨((numM s.data.toList (p, false) 2).1 : Int), ⟨(rawM s.data.toList (numM s.data.toList (numM s.data.toList (p, false) 2).2 2).2 (numM s.data.toList (numM s.data.toList (p, false) 2).2 2).1).1.toArray⟩⟩, (rawM s.data.toList (numM s.data.toList (numM s.data.toList (p, false) 2).2 2).2 (numM s.data.toList (numM s.data.toList (p, false) 2).2 2).1).2) = optRd s.data.toList p := rfl
      clear hL hpre hne hj hR hS hlf hg
      gi_wp2_with (fail)
      refine ⟨trivial, HL.out.mono ?_⟩
      rintro r v1 ⟨rfl, hR1, hB1⟩
      have HN := Lib.hid ((callsIn_wide (n := n - 1)).2 (num2_st (st := (p, false)) hR1 hsp hps))
      have H1 := Lib.hid hB1
      clear hR1 hB1 HL
      gi_wp2_with (fail)
      refine ⟨trivial, HN.out.mono ?_⟩
      rintro r v2 ⟨rfl, hR2, hB2, ha2⟩
      have hx2 := num2_lt s.data.toList (p, false)
      generalize numM s.data.toList (p, false) 2 = x2 at hR2 ha2 hx2 hrd ⊢
      have y2 := wrap2 hx2
      have HN2 := Lib.hid ((callsIn_wide (n := n - 1)).2 (num2_st hR2 hsp ha2))
      have H2 := Lib.hid (H1.out.trans hB2)
      clear hR2 hB2 ha2 hx2 HN H1
      gi_wp2_with (fail)
      refine ⟨trivial, HN2.out.mono ?_⟩
      rintro r v3 ⟨rfl, hR3, hB3, ha3⟩
      have hx3 := num2_lt s.data.toList x2.2
      generalize numM s.data.toList x2.2 2 = x3 at hR3 ha3 hx3 hrd ⊢
      have y3 := wrap2i hx3
      have HRW := Lib.hid ((callsIn_wide (n := n - 1)).2 (raw_st hR3 x3.1 hsp ha3))
      have H3 := Lib.hid (H2.out.trans hB3)
      clear hR3 hB3 ha3 hx3 HN2 H2 y2
      gi_wp2_with (fail)
      refine ⟨trivial, HRW.out.mono ?_⟩
      rintro r v4 ⟨rfl, hR4, hB4, ha4⟩
      generalize rawM s.data.toList x3.2 x3.1 = x4 at hR4 ha4 hrd ⊢
      have hB14 := H3.out.trans hB4
      have bs4 := hB14.blk HRS.out.2 (by omega)
      have hJ4 := HK.out.1 X _ _ _ HP.out.2.2.2.2 (Out.of_butE hB14 ⟨Nat.le_refl _, hXR⟩)
      have hBad := Lib.hid ((callsIn_wide (n := n - 1)).2 (rBad_any hR4))
      have HE := Lib.hid (And.intro hR4 (And.intro bs4 (And.intro hJ4 ha4)))
      clear hR4 hB4 ha4 hB14 bs4 hJ4 HRW H3 y3
      obtain ⟨d4, p4, bad⟩ := x4
      dsimp only at hrd hBad ⊢
      cases bad with
      | true =>
        have hopt := optL_bad (f := g') HP.out.2.1 (by rw [← hrd])
        have hp1 := HP.out.1
        rw [hopt] at hp1
        have hyld := HK.out.2.2 X _ none v4 HE.out.2.2.1 ⟨[], by rw [List.append_nil]; exact hp1⟩
        rw [hp1] at hyld
        obtain ⟨fn, tmps, assign, body, hy, hRR⟩ := yield_deep (m := n - 1) hyld
        have hRR2 := hRR.mono (R' := fun e W' => ∃ b, e = .returned (.bool b) ∧ ((b = true ∧ J X L W') ∨ (b = false ∧ Jx X L W'))) (by
          rintro e W' (⟨rfl, h1, h2⟩ | ⟨rfl, h1, _⟩)
          · exact ⟨true, rfl, .inl ⟨rfl, h1⟩⟩
          · exact ⟨false, rfl, .inr ⟨rfl, h1⟩⟩)
        have HY := Lib.hid hRR2
        dsimp only [encO, oOf, Option.isSome] at hy
        clear hopt hp1 hyld hRR hRR2 hrd
        gi_wp2_with (fail)
        refine ⟨trivial, hBad.out.mono ?_⟩
        rintro r v5 ⟨rfl, rfl⟩
        gi_wp2_with (fail)
        refine (HY.out).mono ?_
        rintro r v6 ⟨b, rfl, hd⟩
        have HD := Lib.hid hd
        clear hd
        gi_wp2_with (fail)
        refine bodyPost_ret (results_none rfl _ _ _) rfl ?_
        rcases HD.out with ⟨_, hJ1⟩ | ⟨_, hJx1⟩
        · exact ⟨⟨_, rfl⟩, _, .inl hJ1⟩
        · exact ⟨⟨_, rfl⟩, _, .inr ⟨_, List.prefix_refl _, hJx1⟩⟩
      | false =>
        have hopt := optL_some (f := g') HP.out.2.1 (by rw [← hrd])
        have hok := optRd_ok (l := s.data.toList) (p := p) (by rw [← hrd])
        have hp1 := HP.out.1
        rw [hopt] at hp1
        rw [← hrd] at hp1 hok
        dsimp only at hp1 hok
        have hp2 := hp1
        rw [List.append_cons] at hp2
        have hyld := HK.out.2.2 X _ (some ⟨(x2.1 : Int), ⟨d4.toArray⟩⟩) v4 HE.out.2.2.1 ⟨_, hp2⟩
        obtain ⟨fn, tmps, assign, body, hy, hRR⟩ := yield_deep (m := n - 1) hyld
        have hRR2 := hRR.mono (R' := fun e W' => ∃ b, e = .returned (.bool b) ∧ ((b = true ∧ J X (pre ++ [some ⟨(x2.1 : Int), ⟨d4.toArray⟩⟩]) W' ∧ KeepX W.heap.size X Bs (Bs + 1) v4 W') ∨ (b = false ∧ Jx X (pre ++ [some ⟨(x2.1 : Int), ⟨d4.toArray⟩⟩]) W'))) (by
          rintro e W' (⟨rfl, h1, h2⟩ | ⟨rfl, h1, _⟩)
          · exact ⟨true, rfl, .inl ⟨rfl, h1, h2⟩⟩
          · exact ⟨false, rfl, .inr ⟨rfl, h1⟩⟩)
        have HY := Lib.hid hRR2
        have HOK := Lib.hid (And.intro hok hp2)
        dsimp only [encO, oOf, Option.isSome] at hy
        clear hopt hp1 hp2 hyld hRR hRR2 hrd hok
        gi_wp2_with (fail)
        refine ⟨trivial, hBad.out.mono ?_⟩
        rintro r v5 ⟨rfl, rfl⟩
        gi_wp2_with (fail)
        refine (HY.out).mono ?_
        rintro r v6 ⟨b, rfl, hd⟩
        rcases hd with ⟨rfl, hJ3, hK3⟩ | ⟨rfl, hJx3⟩
        · have h3 := HE.out
          have R3 : Rd _ W.heap.size s p4 false := (hK3.same _ (by have := h3.1.lt; exact this) (.inl ⟨Nat.le_refl _, hXR⟩)).trans h3.1
          have S3 : Blk _ Bs 9 #[.string s] := (hK3.same _ (by have := h3.2.1.lt; exact this) (.inr ⟨Nat.le_refl _, by omega⟩)).trans h3.2.1
          have H3 := Lib.hid (And.intro hJ3 (And.intro R3 S3))
          clear hJ3 hK3 R3 S3 h3
          gi_wp2_with (fail)
          gi_roundg g'
          case measure => omega
          case rel =>
            have hok := HOK.out.1
            rw [hsl] at hok
            have h4 := HP.out.2.2.1
            have h5 := HP.out.2.2.2.1
            exact ⟨_, p4, HOK.out.2, by omega, by omega, H3.out.1, H3.out.2.1, H3.out.2.2⟩
        · gi_wp2_with (fail)
          refine bodyPost_ret (results_none rfl _ _ _) rfl ?_
          exact ⟨⟨_, rfl⟩, _, .inr ⟨_, ⟨_, HOK.out.2⟩, hJx3⟩⟩
    · obtain rfl : lf = 0 := by omega
      have hend := optL_end (f := g') (l := s.data.toList) (p := p) (by rw [hsl]; exact hlf)
      rw [hend, List.append_nil] at hpre
      subst hpre
      clear hL hend hlt hlf
      gi_wp2_with (fail)
      refine ⟨trivial, HL.out.mono ?_⟩
      rintro r v1 ⟨rfl, hR1, hB1⟩
      have H1 := Lib.hid hB1
      clear hR1 hB1
      gi_wp2_with (fail)
      refine bodyPost_end (results_none rfl _ _ _) rfl ?_
      exact ⟨⟨_, rfl⟩, _, .inl (HK.out.1 X _ _ _ hj.out (Out.of_butE H1.out ⟨Nat.le_refl _, hXR⟩))⟩
end Go.Proofs.Ytgfpnkakglgokaa

namespace Go.Proofs.Ytgfpnkakglgokaa
open Go.RowKit Go.Shelf Go.Lib
attribute [local go_sem] Oper.semAt_some

theorem Blk.belowS {a b : World} {g : Nat} {t : TypeId} {cs : Array Value} (h : Blk a g t cs) (k : Below a.heap.size a b) : Blk b g t cs := h.below k h.lt
theorem below_allocE (W : World) (o : Obj) : Below W.heap.size W (W.alloc o) := (Below.refl _ _).alloc (Nat.le_refl _) _
theorem cell_newE (W : World) (v : Value) (t : TypeId) : (W.alloc (.cells #[v] t)).cell? ⟨W.heap.size, 0, none⟩ = some v := by rw [World.cell?_alloc_new]; rfl
theorem ltA1 (w : World) (o : Obj) : w.heap.size < (w.alloc o).heap.size := by rw [World.size_alloc]; omega
theorem belowT {u a b : World} (h : Below u.heap.size u a) (k : Below a.heap.size a b) : Below u.heap.size u b := h.trans (k.mono h.size)
/-- What is laid ahead: the message's box, the two results, the wanted type. -/
structure GetV (m : MRec) (w V : World) : Prop where
  b : Below w.heap.size w V
  m0 : Blk V w.heap.size 35 #[.int .u16 m.id, .int .u16 m.bi, .slice m.qA m.q.length m.qc, .slice m.sA m.s.length m.sc, .slice m.hA m.h.length m.hc, .slice m.eA m.e.length m.ec]
  r0 : Blk V (w.heap.size + 1) 38 #[.bool false, .int .u16 0, .int .u8 0, .int .u8 0, .int .u16 0, .slice none 0 0]
  r1 : Blk V (w.heap.size + 1 + 1) 28 #[.int .i64 0]
  sz : w.heap.size + 3 ≤ V.heap.size
theorem GetV.below {m : MRec} {w V W : World} (h : GetV m w V) (hb : Below V.heap.size V W) : GetV m w W :=
  ⟨h.b.trans (hb.mono h.b.size), h.m0.belowS hb, h.r0.belowS hb, h.r1.belowS hb, Nat.le_trans h.sz hb.size⟩
theorem getV_new (m : MRec) (w : World) : GetV m w (((w.alloc (.cells #[.int .u16 m.id, .int .u16 m.bi, .slice m.qA m.q.length m.qc, .slice m.sA m.s.length m.sc, .slice m.hA m.h.length m.hc, .slice m.eA m.e.length m.ec] 35)).alloc (.cells #[.bool false, .int .u16 0, .int .u8 0, .int .u8 0, .int .u16 0, .slice none 0 0] 38)).alloc (.cells #[.int .i64 0] 28)) := by
  refine ⟨(((Below.refl _ _).alloc (Nat.le_refl _) _).alloc (by simp) _).alloc (by simp; omega) _, ((Blk.new _ _ _).alloc _).alloc _, ?_, ?_, by simp⟩
  · have h1 := (Blk.new (w.alloc (.cells #[.int .u16 m.id, .int .u16 m.bi, .slice m.qA m.q.length m.qc, .slice m.sA m.s.length m.sc, .slice m.hA m.h.length m.hc, .slice m.eA m.e.length m.ec] 35)) 38 #[.bool false, .int .u16 0, .int .u8 0, .int .u8 0, .int .u16 0, .slice none 0 0]).alloc (.cells #[.int .i64 0] 28)
    rw [World.size_alloc] at h1
    exact h1
  · have h1 := Blk.new ((w.alloc (.cells #[.int .u16 m.id, .int .u16 m.bi, .slice m.qA m.q.length m.qc, .slice m.sA m.s.length m.sc, .slice m.hA m.h.length m.hc, .slice m.eA m.e.length m.ec] 35)).alloc (.cells #[.bool false, .int .u16 0, .int .u8 0, .int .u8 0, .int .u16 0, .slice none 0 0] 38)) 28 #[.int .i64 0]
    rw [World.size_alloc, World.size_alloc] at h1
    exact h1
/-- The results, written. -/
theorem GetV.done {m : MRec} {w V : World} (h : GetV m w V) (v0 v1 v2 v3 v4 v5 u : Value) :
    Blk (((((((V.setCell ⟨w.heap.size + 1, 0, none⟩ v0).setCell ⟨w.heap.size + 1, 1, none⟩ v1).setCell ⟨w.heap.size + 1, 2, none⟩ v2).setCell ⟨w.heap.size + 1, 3, none⟩ v3).setCell ⟨w.heap.size + 1, 4, none⟩ v4).setCell ⟨w.heap.size + 1, 5, none⟩ v5).setCell ⟨w.heap.size + 1 + 1, 0, none⟩ u) (w.heap.size + 1) 38 #[v0, v1, v2, v3, v4, v5] ∧
    Blk (((((((V.setCell ⟨w.heap.size + 1, 0, none⟩ v0).setCell ⟨w.heap.size + 1, 1, none⟩ v1).setCell ⟨w.heap.size + 1, 2, none⟩ v2).setCell ⟨w.heap.size + 1, 3, none⟩ v3).setCell ⟨w.heap.size + 1, 4, none⟩ v4).setCell ⟨w.heap.size + 1, 5, none⟩ v5).setCell ⟨w.heap.size + 1 + 1, 0, none⟩ u) (w.heap.size + 1 + 1) 28 #[u] ∧
    KeepK (fun i => i ≠ w.heap.size + 1 ∧ i ≠ w.heap.size + 1 + 1) V (((((((V.setCell ⟨w.heap.size + 1, 0, none⟩ v0).setCell ⟨w.heap.size + 1, 1, none⟩ v1).setCell ⟨w.heap.size + 1, 2, none⟩ v2).setCell ⟨w.heap.size + 1, 3, none⟩ v3).setCell ⟨w.heap.size + 1, 4, none⟩ v4).setCell ⟨w.heap.size + 1, 5, none⟩ v5).setCell ⟨w.heap.size + 1 + 1, 0, none⟩ u) := by
  have k := keep_msg (K := fun i => i ≠ w.heap.size + 1 ∧ i ≠ w.heap.size + 1 + 1) V (g := w.heap.size + 1) (fun i hi => hi.1) v0 v1 v2 v3 v4 v5
  have k2 := keep_msg (K := fun i => i ≠ w.heap.size + 1) V (g := w.heap.size + 1) (fun i hi => hi) v0 v1 v2 v3 v4 v5
  refine ⟨(h.r0.edns v0 v1 v2 v3 v4 v5).far (by show w.heap.size + 1 ≠ w.heap.size + 1 + 1; omega) u, ?_, k.setCell (p := ⟨w.heap.size + 1 + 1, 0, none⟩) (fun i hi => hi.2) u⟩
  have hb := (h.r1.keepK k2 (by omega)).set_ 0 u
  simpa using hb
theorem GetV.cells {m : MRec} {w V : World} (h : GetV m w V) : (V.cell? ⟨w.heap.size + 1, 0, none⟩ = some (.bool false) ∧ V.cell? ⟨w.heap.size + 1, 1, none⟩ = some (.int .u16 0) ∧ V.cell? ⟨w.heap.size + 1, 2, none⟩ = some (.int .u8 0) ∧ V.cell? ⟨w.heap.size + 1, 3, none⟩ = some (.int .u8 0) ∧ V.cell? ⟨w.heap.size + 1, 4, none⟩ = some (.int .u16 0) ∧ V.cell? ⟨w.heap.size + 1, 5, none⟩ = some (.slice none 0 0) ∧ V.cell? ⟨w.heap.size + 1 + 1, 0, none⟩ = some (.int .i64 0)) ∧
    V.frozen? ⟨w.heap.size + 1, 0, none⟩ = false ∧ V.frozen? ⟨w.heap.size + 1, 1, none⟩ = false ∧ V.frozen? ⟨w.heap.size + 1, 2, none⟩ = false ∧ V.frozen? ⟨w.heap.size + 1, 3, none⟩ = false ∧ V.frozen? ⟨w.heap.size + 1, 4, none⟩ = false ∧ V.frozen? ⟨w.heap.size + 1, 5, none⟩ = false ∧ V.frozen? ⟨w.heap.size + 1 + 1, 0, none⟩ = false :=
  ⟨⟨h.r0.cell 0, h.r0.cell 1, h.r0.cell 2, h.r0.cell 3, h.r0.cell 4, h.r0.cell 5, h.r1.cell 0⟩, h.r0.frozen 0, h.r0.frozen 1, h.r0.frozen 2, h.r0.frozen 3, h.r0.frozen 4, h.r0.frozen 5, h.r1.frozen 0⟩
def ednsZ : Value := .agg #[.bool false, .int .u16 0, .int .u8 0, .int .u8 0, .int .u16 0, .slice none 0 0]
/-- The rest of a list, as it lies. -/
theorem rtab_drop {w : World} {b off : Nat} {xs : List RRec} (h : RTab w (some ⟨b, off, none⟩) xs) (k : Nat) : RTab w (some ⟨b, off + k * 5, none⟩) (xs.drop k) := by
  intro hn
  obtain ⟨b', off', hA, hlt, hc⟩ := h (by rw [List.length_drop] at hn; omega)
  injection hA with hA
  injection hA with h1 h2 _
  subst h1 h2
  refine ⟨b, off + k * 5, rfl, hlt, fun j e he i v hv => ?_⟩
  rw [List.getElem?_drop] at he
  have := hc (k + j) e he i v hv
  rw [show off + k * 5 + j * 5 + i = off + (k + j) * 5 + i by omega]
  exact this
theorem Out.blkE {B X b : Nat} {A A' : World} {t : TypeId} {cs : Array Value} (h : Blk A b t cs) (ho : Out B X A A') (hb : b < B) : Blk A' b t cs :=
  (ho.block b h.lt (.inl hb)).trans h
theorem Out.belowE {B X N : Nat} {w A A' : World} (h : Below N w A) (ho : Out B X A A') (hN : N ≤ w.heap.size) (hB : N ≤ B) : Below N w A' :=
  ⟨ho.os.trans h.os, ho.tape.trans h.tape, ho.output.trans h.output, Nat.le_trans h.size ho.size, fun i hi => (ho.block i (Nat.lt_of_lt_of_le hi (Nat.le_trans hN h.size)) (.inl (by omega))).trans (h.block i hi)⟩
theorem prefix_ltE {α : Type} {pre L : List α} {x : α} (h : pre ++ [x] <+: L) : pre.length < L.length := by
  have := h.length_le
  simp at this; omega
theorem own_rowE {B : Nat} {w : World} {v v' : Value} (h : ∀ g, v.ownBlock = some g → B ≤ g) (hB : B ≤ w.heap.size) (hv : v'.ownBlock = v.ownBlock ∨ v'.ownBlock = some w.heap.size) : ∀ g, v'.ownBlock = some g → B ≤ g := by
  intro g hg
  rcases hv with e | e
  · exact h g (e.symm.trans hg)
  · rw [hg] at e
    have : g = w.heap.size := Option.some.inj e
    omega
def GetGP (m : MRec) (w : World) (e : Ending) (w' : World) : Prop :=
  Below w.heap.size w w' ∧ ((∃ k : Int, k ≠ 0 ∧ e = .returned (.tuple #[ednsZ, .int .i64 k]) ∧ ¬ (m.s = [] ∧ m.h = [] ∧ m.e = [])) ∨
    ∃ (th : Bool) (sz hi ve fl : Int) (A : Option Addr) (xs : List Opt) (c : Nat), e = .returned (.tuple #[ednsV th sz hi ve fl A xs.length c, .int .i64 0]) ∧ Sl w' 2 (.slice A xs.length c) xs.length (flatO xs) ∧ (∀ g, (Value.slice A xs.length c).ownBlock = some g → w.heap.size ≤ g) ∧ (∀ o ∈ xs, o.ok) ∧ xs.length ≤ 1000001 ∧ (m.e = [] → ve = 0 ∧ xs = []))
theorem GetV.shut {m : MRec} {w V : World} (h : GetV m w V) (v0 v1 v2 v3 v4 v5 u : Value) : Below w.heap.size w (((((((V.setCell ⟨w.heap.size + 1, 0, none⟩ v0).setCell ⟨w.heap.size + 1, 1, none⟩ v1).setCell ⟨w.heap.size + 1, 2, none⟩ v2).setCell ⟨w.heap.size + 1, 3, none⟩ v3).setCell ⟨w.heap.size + 1, 4, none⟩ v4).setCell ⟨w.heap.size + 1, 5, none⟩ v5).setCell ⟨w.heap.size + 1 + 1, 0, none⟩ u) :=
  ((KeepK.of_below (K := fun i => i < w.heap.size) h.b fun i hi => hi).trans ((h.done v0 v1 v2 v3 v4 v5 u).2.2.mono fun i hi => by omega)).below fun i hi => hi
theorem any_nil {xs : List RRec} (h : xs.any (RRec.is 41) = true) : ¬ xs = [] := by rintro rfl; cases h
def GetIG (w5 : World) (sz hi ve fl : Int) (X : Nat) (pre : List (Option Opt)) (V : World) : Prop :=
  ∃ (xs : List Opt) (v : Value), pre = xs.map some ∧ Blk V (w5.heap.size + 1) 38 #[.bool true, .int .u16 sz, .int .u8 hi, .int .u8 ve, .int .u16 fl, v] ∧ Sl V 2 v xs.length (flatO xs) ∧ (∀ g, v.ownBlock = some g → X ≤ g) ∧ Below w5.heap.size w5 V ∧ X ≤ V.heap.size ∧ w5.heap.size + 3 ≤ X
def GetXG (w w5 : World) (cd : Code) (V : World) : Prop :=
  cd = .ret ∧ Blk V (w.heap.size + 1) 38 #[.bool false, .int .u16 0, .int .u8 0, .int .u8 0, .int .u16 0, .slice none 0 0] ∧ Blk V (w.heap.size + 1 + 1) 28 #[.int .i64 2] ∧ Below w.heap.size w V ∧ w5.heap.size ≤ V.heap.size

set_option maxRecDepth 100000 in
set_option maxHeartbeats 8000000 in
theorem getG_any (m : MRec) (w : World) (hm : m.In w) (hl : m.s.length ≤ 4096 ∧ m.h.length ≤ 4096 ∧ m.e.length ≤ 4096 ∧ m.e.length ≤ m.ec ∧ m.ec ≤ maxLen) (hok : ∀ r ∈ m.e, r.ok ∧ r.d.size ≤ 1000000) :
    Calls Try.prog 15 #[m.val] w (GetGP m w) := by
  obtain ⟨n, hn⟩ : ∃ n : Nat, 8 ≤ n := ⟨8, by omega⟩
  refine (callsIn_wide (n := n)).1 ?_
  have h1n : 1 ≤ n := by omega
  have HM := Lib.hid (And.intro hm hl)
  have HOK := Lib.hid hok
  clear hm hl hok
  dsimp only [MRec.val]
  have hV0 := getV_new m w
  refine callsIn_of_wp_marks Try.func15 rfl trivial ?_ rfl
  simp only [Try.ntmps15, List.size_toArray, List.length_cons, List.length_nil, Nat.reduceAdd, Nat.reduceSub, Array.replicate_succ, Array.replicate_zero, List.push_toArray, List.append_toArray, List.nil_append, List.cons_append]
  gi_wp2_with (fail)
  generalize ((w.alloc (.cells #[.int .u16 m.id, .int .u16 m.bi, .slice m.qA m.q.length m.qc, .slice m.sA m.s.length m.sc, .slice m.hA m.h.length m.hc, .slice m.eA m.e.length m.ec] 35)).alloc (.cells #[.bool false, .int .u16 0, .int .u8 0, .int .u8 0, .int .u16 0, .slice none 0 0] 38)).alloc (.cells #[.int .i64 0] 28) = V at hV0 ⊢
  refine ⟨trivial, ((callsIn_wide (n := n - 1)).2 (typed_any 41 _)).mono ?_⟩
  rintro e w1 ⟨rfl, rfl⟩
  have hV1 := hV0.below (below_allocE V (.cells #[.int .u16 41] 47))
  have hc := cell_newE V (.int .u16 41) 47
  have hBl := ltA1 V (.cells #[.int .u16 41] 47)
  generalize V.alloc (.cells #[.int .u16 41] 47) = U at hV1 hc hBl ⊢
  obtain ⟨B, hB⟩ : ∃ B, V.heap.size = B := ⟨_, rfl⟩
  rw [hB] at hc hBl ⊢
  have hsz := hV1.sz
  have m3 := hV1.m0.cell 3
  have HC := Lib.hid (fun (xs : List RRec) (A : Option Addr) (k : Nat) (W : World) (hW : Below U.heap.size U W) (hT : RTab W A xs) (hx : xs.length ≤ 1000000) => (callsIn_wide (n := n - 1)).2 (containsR_any xs A k 41 B W hT (Nat.lt_of_lt_of_le hBl hW.size) ((hW.cell (p := ⟨B, 0, none⟩) hBl).trans hc) hx))
  have HI := Lib.hid (fun (xs : List RRec) (A : Option Addr) (k : Nat) (W : World) (hW : Below U.heap.size U W) (hT : RTab W A xs) (hx : xs.length ≤ 1000000) => (callsIn_wide (n := n - 1)).2 (indexR_any xs A k 41 B W hT (Nat.lt_of_lt_of_le hBl hW.size) ((hW.cell (p := ⟨B, 0, none⟩) hBl).trans hc) (by omega)))
  have HS := Lib.hid (HC.out m.s m.sA m.sc U (Below.refl _ _) (HM.out.1.below hV1.b).ts (by have := HM.out.2.1; omega))
  have HV := Lib.hid hV1
  clear hV0 hV1 hc
  obtain ⟨b1, hb1⟩ : ∃ b, m.s.any (RRec.is 41) = b := ⟨_, rfl⟩
  rw [hb1] at HS
  have HB1 := Lib.hid hb1
  clear hb1
  gi_wp2_with (fail)
  refine ⟨trivial, HS.out.mono ?_⟩
  rintro e w2 ⟨rfl, hb2⟩
  cases b1 with
  | true =>
    have hV2 := HV.out.below hb2
    obtain ⟨⟨r0, r1, r2, r3, r4, r5, r6⟩, f0, f1, f2, f3, f4, f5, f6⟩ := hV2.cells
    have HV2 := Lib.hid hV2
    clear hV2 hb2
    gi_wp2_with (fail)
    refine ⟨trivial, ?_⟩
    gi_wp2_with (fail)
    have hd := HV2.out.done (.bool false) (.int .u16 0) (.int .u8 0) (.int .u8 0) (.int .u16 0) (.slice none 0 0) (.int .i64 2)
    exact ⟨_, res_cell_cellE rfl _ _ (w.heap.size + 1) 38 _ _ ⟨w.heap.size + 1 + 1, 0, none⟩ (.int .i64 2) rfl hd.1 Try.underlying38 rfl agg_edns rfl (load_errno _ _ _ (hd.2.1.cell 0)), HV2.out.shut _ _ _ _ _ _ _, .inl ⟨2, by decide, rfl, fun h => any_nil HB1.out h.1⟩⟩
  | false =>
  have hV2 := HV.out.below hb2
  have m4 := hV2.m0.cell 4
  have hsz2 := hV2.sz
  have HH := Lib.hid (HC.out m.h m.hA m.hc w2 hb2 (HM.out.1.below hV2.b).th (by have := HM.out.2.2.1; omega))
  have HV2 := Lib.hid (And.intro hV2 hb2)
  clear hV2 hb2 m3
  obtain ⟨b1, hb1⟩ : ∃ b, m.h.any (RRec.is 41) = b := ⟨_, rfl⟩
  rw [hb1] at HH
  have HB2 := Lib.hid hb1
  clear hb1
  gi_wp2_with (fail)
  refine ⟨trivial, HH.out.mono ?_⟩
  rintro e w3 ⟨rfl, hb3⟩
  cases b1 with
  | true =>
    have hV3 := HV2.out.1.below hb3
    obtain ⟨⟨r0, r1, r2, r3, r4, r5, r6⟩, f0, f1, f2, f3, f4, f5, f6⟩ := hV3.cells
    have HV3 := Lib.hid hV3
    clear hV3 hb3
    gi_wp2_with (fail)
    have hd := HV3.out.done (.bool false) (.int .u16 0) (.int .u8 0) (.int .u8 0) (.int .u16 0) (.slice none 0 0) (.int .i64 2)
    exact ⟨_, res_cell_cellE rfl _ _ (w.heap.size + 1) 38 _ _ ⟨w.heap.size + 1 + 1, 0, none⟩ (.int .i64 2) rfl hd.1 Try.underlying38 rfl agg_edns rfl (load_errno _ _ _ (hd.2.1.cell 0)), HV3.out.shut _ _ _ _ _ _ _, .inl ⟨2, by decide, rfl, fun h => any_nil HB2.out h.2.1⟩⟩
  | false =>
  have hV3 := HV2.out.1.below hb3
  have m5 := hV3.m0.cell 5
  have hsz3 := hV3.sz
  have HE := Lib.hid (HI.out m.e m.eA m.ec w3 (belowT HV2.out.2 hb3) (HM.out.1.below hV3.b).te (by have := HM.out.2.2.2.1; omega))
  have HV3 := Lib.hid (And.intro hV3 (belowT HV2.out.2 hb3))
  clear hV3 hb3 m4 HV2
  rcases idxP_cases (RRec.is 41) m.e with ⟨hix, _⟩ | ⟨k, r, hix, hrk, hp, _⟩
  · rw [hix] at HE
    clear hix
    gi_wp2_with (fail)
    refine ⟨trivial, HE.out.mono ?_⟩
    rintro e w4 ⟨rfl, hb4⟩
    have hV4 := HV3.out.1.below hb4
    obtain ⟨⟨r0, r1, r2, r3, r4, r5, r6⟩, f0, f1, f2, f3, f4, f5, f6⟩ := hV4.cells
    have HV4 := Lib.hid hV4
    clear hV4 hb4
    gi_wp2_with (fail)
    have hd := HV4.out.done (.bool false) (.int .u16 0) (.int .u8 0) (.int .u8 0) (.int .u16 0) (.slice none 0 0) (.int .i64 0)
    refine ⟨_, res_cell_cellE rfl _ _ (w.heap.size + 1) 38 _ _ ⟨w.heap.size + 1 + 1, 0, none⟩ (.int .i64 0) rfl hd.1 Try.underlying38 rfl agg_edns rfl (load_errno _ _ _ (hd.2.1.cell 0)), HV4.out.shut _ _ _ _ _ _ _, .inr ⟨false, 0, 0, 0, 0, none, [], 0, rfl, Sl.nil _ _, fun g hg => by simp [Value.ownBlock] at hg, fun o ho => (by cases ho), by simp, fun _ => ⟨rfl, rfl⟩⟩⟩
  rw [hix] at HE
  have hk : k < m.e.length := (List.getElem?_eq_some_iff.1 hrk).1
  have HEN := Lib.hid (show ¬ (m.s = [] ∧ m.h = [] ∧ m.e = []) from fun h => by rw [h.2.2] at hk; simp at hk)
  have HENE := Lib.hid (show ¬ m.e = [] from fun h => by rw [h] at hk; simp at hk)
  have HR := Lib.hid (And.intro hrk (HOK.out r (List.mem_of_getElem? hrk)))
  obtain ⟨b, off, hA, hbl, hcl⟩ := (HM.out.1.te) (by omega)
  have hml := HM.out.2.2.2
  unfold maxLen at hml
  have hkI : (k : Int) < (m.e.length : Int) := by omega
  have hlI : (m.e.length : Int) ≤ 4096 := by omega
  have hcI : (m.e.length : Int) ≤ (m.ec : Int) := by omega
  have hcI2 : (m.ec : Int) ≤ 9223372036854775807 := by omega
  have HA := Lib.hid hA
  rw [hA] at HE m5 ⊢
  clear hk hA hbl hcl hml hix hrk hp
  gi_wp2_with (fail)
  refine ⟨trivial, HE.out.mono ?_⟩
  rintro e w4 ⟨rfl, hb4⟩
  have hV4 := HV3.out.1.below hb4
  have m5' := hV4.m0.cell 5
  rw [HA.out] at m5'
  have hsz4 := hV4.sz
  have hte := (HM.out.1.below hV4.b).te
  rw [HA.out] at hte
  have hlen : (m.e.drop (k + 1)).length = m.e.length - (k + 1) := List.length_drop
  have hDc : ∀ X c, Below U.heap.size U w4 → RTab w4 X (m.e.drop (k + 1)) → _ := fun X c hW hT => HC.out (m.e.drop (k + 1)) X c w4 hW hT (by rw [hlen]; have := HM.out.2.2.2.1; omega)
  obtain ⟨b1, hb1⟩ : ∃ b, (m.e.drop (k + 1)).any (RRec.is 41) = b := ⟨_, rfl⟩
  rw [hb1, hlen] at hDc
  have HD := Lib.hid (And.intro hDc (And.intro (belowT HV3.out.2 hb4) (And.intro hte hV4)))
  clear hte hDc hV4 hb4 hlen m5 hb1
  by_cases hcap : m.ec - (k + 1) = 0
  case' pos =>
    have hnil : m.e.drop (k + 1) = [] := List.drop_eq_nil_of_le (by have := HM.out.2.2.2; omega)
    have HN := Lib.hid hnil
    clear hnil
    gi_wp2_with (fail)
    refine ⟨trivial, (HD.out.1 _ _ HD.out.2.1 (by rw [HN.out]; exact RTab.nil_)).mono ?_⟩
  case' neg =>
    gi_wp2_with (fail)
    refine ⟨trivial, (HD.out.1 _ _ HD.out.2.1 (rtab_drop HD.out.2.2.1 (k + 1))).mono ?_⟩
  all_goals
    rintro e w5 ⟨rfl, hb5⟩
    have hV5 := HD.out.2.2.2.below hb5
    cases b1 with
    | true =>
      obtain ⟨⟨r0, r1, r2, r3, r4, r5, r6⟩, f0, f1, f2, f3, f4, f5, f6⟩ := hV5.cells
      have HV5 := Lib.hid hV5
      clear hV5 hb5
      gi_wp2_with (fail)
      have hd := HV5.out.done (.bool false) (.int .u16 0) (.int .u8 0) (.int .u8 0) (.int .u16 0) (.slice none 0 0) (.int .i64 4)
      exact ⟨_, res_cell_cellE rfl _ _ (w.heap.size + 1) 38 _ _ ⟨w.heap.size + 1 + 1, 0, none⟩ (.int .i64 4) rfl hd.1 Try.underlying38 rfl agg_edns rfl (load_errno _ _ _ (hd.2.1.cell 0)), HV5.out.shut _ _ _ _ _ _ _, .inl ⟨4, by decide, rfl, HEN.out⟩⟩
    | false =>
    have m55 := hV5.m0.cell 5
    rw [HA.out] at m55
    have hsz5 := hV5.sz
    have hte5 := (HM.out.1.below hV5.b).te
    rw [HA.out] at hte5
    obtain ⟨b', off', hA', hbl, d0, d1, d2, d3, d4⟩ := hte5.cells HR.out.1
    injection hA' with hA'
    injection hA' with q1 q2 _
    subst q1 q2
    obtain ⟨rn, rt, sz, T, dd⟩ := r
    dsimp only at d0 d1 d2 d3 d4
    have hTb : 0 ≤ T ∧ T ≤ 4294967295 := HR.out.2.1.2.2.2
    obtain ⟨ve, t2⟩ : ∃ ve, T / 65536 % 256 = ve := ⟨_, rfl⟩
    obtain ⟨fl, t3⟩ : ∃ fl, T % 65536 = fl := ⟨_, rfl⟩
    have t4 : IntKind.u16.wrap T = fl := by rw [IntKind.wrap_u16]; omega
    have hdl : dd.size ≤ 1000000 := HR.out.2.2
    obtain ⟨r0, r1, r2, r3, r4, r5, r6⟩ := hV5.cells.1
    obtain ⟨f0, f1, f2, f3, f4, f5, f6⟩ := hV5.cells.2
    have HV5 := Lib.hid (And.intro hV5 hb5)
    have hTb1 := hTb.1
    have hTb2 := hTb.2
    have HDL := Lib.hid hdl
    clear hV5 hb5 hte5 m5' hcap hTb hdl
    by_cases hroot : rn = ⟨#[0]⟩
    case' neg =>
      have hrb : (rn.toList == [0]) = false := by
        rw [beq_eq_false_iff_ne]
        intro h
        rw [ByteArray.toList_eq] at h
        exact hroot (ByteArray.ext (Array.toList_inj.1 h))
      have hV6 := HV5.out.1.below (below_allocE w5 (.cells #[.string rn, .int .u16 rt, .int .u16 sz, .int .u32 T, .string dd] 85))
      clear r0 r1 r2 r3 r4 r5 r6 f0 f1 f2 f3 f4 f5 f6
      obtain ⟨⟨r0, r1, r2, r3, r4, r5, r6⟩, f0, f1, f2, f3, f4, f5, f6⟩ := hV6.cells
      have HV6 := Lib.hid hV6
      clear hV6
      gi_wp2_with (fail)
      have hd := HV6.out.done (.bool false) (.int .u16 0) (.int .u8 0) (.int .u8 0) (.int .u16 0) (.slice none 0 0) (.int .i64 2)
      exact ⟨_, res_cell_cellE rfl _ _ (w.heap.size + 1) 38 _ _ ⟨w.heap.size + 1 + 1, 0, none⟩ (.int .i64 2) rfl hd.1 Try.underlying38 rfl agg_edns rfl (load_errno _ _ _ (hd.2.1.cell 0)), HV6.out.shut _ _ _ _ _ _ _, .inl ⟨2, by decide, rfl, HEN.out⟩⟩
    case' pos =>
      subst hroot
      clear r0 r1 r2 r3 r4 r5 r6 f0 f1 f2 f3 f4 f5 f6
      gi_wp2_with (fail)
      refine ⟨trivial, (options_in (n - 1) dd _).mono ?_⟩
      rintro e w6 ⟨rfl, rfl⟩
      gi_wp2_with (fail)
      obtain ⟨W0, hW0⟩ : ∃ W0, ((w5.alloc (.cells #[.string ⟨#[0]⟩, .int .u16 rt, .int .u16 sz, .int .u32 T, .string dd] 85)).alloc (.cells #[.bool true, .int .u16 sz, .int .u8 (T / 16777216), .int .u8 ve, .int .u16 fl, .slice none 0 0] 38)).alloc (.cells #[.string dd] 9) = W0 := ⟨_, rfl⟩
      have hsz0 : W0.heap.size = w5.heap.size + 3 := by rw [← hW0]; simp
      have hbW : Below w5.heap.size w5 W0 := by rw [← hW0]; exact (((Below.refl _ _).alloc (Nat.le_refl _) _).alloc (by simp) _).alloc (by simp; omega) _
      have heb : Blk W0 (w5.heap.size + 1) 38 #[.bool true, .int .u16 sz, .int .u8 (T / 16777216), .int .u8 ve, .int .u16 fl, .slice none 0 0] := by
        rw [← hW0]
        have := Blk.new (w5.alloc (.cells #[.string ⟨#[0]⟩, .int .u16 rt, .int .u16 sz, .int .u32 T, .string dd] 85)) 38 #[.bool true, .int .u16 sz, .int .u8 (T / 16777216), .int .u8 ve, .int .u16 fl, .slice none 0 0]
        rw [World.size_alloc] at this
        exact this.alloc _
      have hdb : Blk W0 (w5.heap.size + 2) 9 #[.string dd] := by
        rw [← hW0]
        have := Blk.new ((w5.alloc (.cells #[.string ⟨#[0]⟩, .int .u16 rt, .int .u16 sz, .int .u32 T, .string dd] 85)).alloc (.cells #[.bool true, .int .u16 sz, .int .u8 (T / 16777216), .int .u8 ve, .int .u16 fl, .slice none 0 0] 38)) 9 #[.string dd]
        rw [World.size_alloc, World.size_alloc] at this
        exact this
      rw [hW0]
      clear hW0
      obtain ⟨i0, hi0, hz0, hz1, hz2⟩ := info_parts info_opt
      have HX := Lib.hid (And.intro heb (And.intro hdb (And.intro hbW hsz0)))
      have hwz : w.heap.size + 3 ≤ w5.heap.size := HV5.out.1.sz
      clear hbl d0 d1 d2 d3 d4 m55 t2 t3 t4
      apply rangeMA (gf := 61) (lb := #[.pointer (some ⟨w5.heap.size + 2, 0, none⟩)]) rfl (enters_of Try.func61 (by kernel_rfl) rfl)
        (options1_G (w5.heap.size + 2) dd HDL.out W0 hdb) (by omega) (Below.refl _ _) (fun _ => rfl)
        (GetIG w5 sz (T / 16777216) ve fl)
        (fun _ cd _ V => GetXG w w5 cd V)
        ?hI ?hIx ?h0 (fun x => .cells #[.int .u16 (oOf x).c, .string (oOf x).d] 111)
      case hI =>
        rintro X pre A1 A2 ⟨xs, v, h0, h1, h2, h3, h4, h5, h6⟩ ho
        exact ⟨xs, v, h0, ho.blkE h1 (by omega), h2.keep ho.size fun g hg => ho.block g (h2.lt g hg) (.inr (h3 g hg)), h3, ho.belowE h4 (Nat.le_refl _) (by omega), Nat.le_trans h5 ho.size, h6⟩
      case hIx =>
        rintro X cd pre A1 A2 ⟨h0, h1, h2, h3, h4⟩ ho
        exact ⟨h0, ho.blkE h1 (by omega), ho.blkE h2 (by omega), ho.belowE h3 (Nat.le_refl _) (by omega), Nat.le_trans h4 ho.size⟩
      case h0 =>
        intro X V hV hX
        exact ⟨[], _, rfl, (hV.block _ (by omega)).trans heb, Sl.nil _ _, fun g hg => by simp [Value.ownBlock] at hg, hbW.trans (hV.mono hbW.size), by omega, by have := hV.size; omega⟩
      case hassign =>
        intro l x V g K hg hK
        unfold encO
        gi_wp2
        rw [← hg]
        exact hK
      case hbody =>
        rintro l X pre x g V hgg hV hG ⟨xs, v, h0, h1, h2, h3, h4, h5, h6⟩ hpre
        obtain ⟨A, c, rfl, hc1, hc2⟩ := h2.shape
        cases x with
        | none =>
          have hV7 := HV5.out.1.below h4
          obtain ⟨⟨r0, r1, r2, r3, r4, r5, r6⟩, f0, f1, f2, f3, f4, f5, f6⟩ := hV7.cells
          have HV7 := Lib.hid (And.intro hV7 (And.intro h4 (And.intro h5 h6)))
          clear h0 h1 h2 h3 h4 h5 h6 hV7 hpre hG
          dsimp only [Option.isSome]
          gi_wp2_with (fail)
          have hd := HV7.out.1.done (.bool false) (.int .u16 0) (.int .u8 0) (.int .u8 0) (.int .u16 0) (.slice none 0 0) (.int .i64 2)
          obtain ⟨hV7, h4, h5, h6⟩ := HV7.out
          have hzz := hd.2.2.size
          have := h4.size
          exact ⟨⟨hd.2.2.size, fun i hi hc => hd.2.2.block i ⟨by omega, by omega⟩⟩, rfl, hd.1, hd.2.1, hV7.shut _ _ _ _ _ _ _, by omega⟩
        | some x =>
          have hG' : Blk V g 111 #[.int .u16 x.c, .string x.d] := hG
          have c5 : V.cell? ⟨w5.heap.size + 1, 5, none⟩ = some (.slice A xs.length c) := h1.cell 5
          have p5 := h1.frozen 5
          have e0 := hG'.cell 0
          have e1 := hG'.cell 1
          have hlen := prefix_ltE hpre
          have hol := optL_len dd.data.toList (dd.size + 1) 0
          have hdl := HDL.out
          have hxl : xs.length ≤ 1000001 := by rw [h0, List.length_map] at hlen; omega
          have hl1 : w5.heap.size + 1 < V.heap.size := h1.lt
          have HSL := Lib.hid (h2.alloc (.cells #[.int .u16 x.c, .string x.d] 111))
          have HSR := Lib.hid (src_two (P := Try.prog) Try.underlying36 V 111 (.int .u16 x.c) (.string x.d) rfl rfl)
          have HV := Lib.hid (And.intro h1 (And.intro h2 (And.intro h3 (And.intro h4 (And.intro h5 (And.intro h6 (And.intro hV (And.intro hgg h0))))))))
          clear hpre h0 h1 h2 h3 h4 h5 h6 hG hG' hV hgg heb hdb hbW hlen hol hdl
          dsimp only [Option.isSome, oOf]
          gi_wp2_with (gi_at_builtin; go_must (refine wpListIn_append_sl _ rfl (.tmp 69) (.tmp 71) 36 36 rfl 111 i0 (.agg #[.int .u16 0, .string ⟨#[]⟩]) 2 24 Try.underlying36 hi0 hz0 hz1 hz2 rfl (.slice A xs.length c) xs.length (flatO xs) rfl HSL.out _ rfl 1 [.int .u16 x.c, .string x.d] HSR.out (by unfold maxLen; omega) (by omega) ?_); intro v3 w3 hs3 hg3 hv3; obtain ⟨A3, c3, rfl, hc3, hm3⟩ := hs3.shape; have hx := HV.out; have k1 := (hx.1.alloc (.cells #[.int .u16 x.c, .string x.d] 111)).grown hg3 (fun e => by have := hx.2.2.1 _ e.symm; have := hx.2.2.2.2.2.1; omega); have g5 := k1.cell 5; have p5' := k1.frozen 5; have H3 := Lib.hid (And.intro hs3 (And.intro hg3 (And.intro hv3 k1))); clear hs3 hg3 hv3 k1 hx hc3 hm3)
          obtain ⟨h1, h2, h3, h4, h5, h6, hV, hgV, h0⟩ := HV.out
          obtain ⟨hs3, hg3, hv3, k1⟩ := H3.out
          have hrow : ∀ i, (Value.slice A xs.length c).ownBlock = some i → (i < W0.heap.size ∨ X ≤ i) ∧ (i < w5.heap.size + 2 ∨ w5.heap.size + 2 + 1 ≤ i) := fun i hi => by have := h3 i hi; omega
          refine ⟨((((KeepX.refl _ _ _ _ V).alloc _).grown hg3 hrow).trans (.cell _ (by show (w5.heap.size + 1 < _ ∨ _) ∧ (w5.heap.size + 1 < _ ∨ _); omega))), xs ++ [x], _, by rw [h0, List.map_append]; rfl, k1.set_ 5 _, ?_, ?_, ?_, ?_, h6⟩
          · rw [List.length_append, show flatO (xs ++ [x]) = flatO xs ++ [.int .u16 x.c, .string x.d] by rw [flatO_append]; rfl]
            refine hs3.far (p := ⟨w5.heap.size + 1, 5, none⟩) (fun g hg => ?_) _
            have := own_rowE h3 (by simp; omega) hv3 g hg
            show g ≠ w5.heap.size + 1
            omega
          · exact own_rowE h3 (by simp; omega) hv3
          · exact (((h4.alloc (by omega) _).grown hg3 (by simp; omega) (fun g hg => by have := h3 g hg; omega))).setCell (by show w5.heap.size ≤ w5.heap.size + 1; omega) _
          · have := hg3.size
            simp [World.setCell] at this ⊢
            omega
      case hdone =>
        rintro D X V hD hD2 ⟨xs, v, h0, h1, h2, h3, h4, h5, h6⟩ hK
        obtain ⟨A, c, rfl, hc1, hc2⟩ := h2.shape
        have c0 := h1.cell 0
        have c1 := h1.cell 1
        have c2 := h1.cell 2
        have c3 := h1.cell 3
        have c4 := h1.cell 4
        have c5 := h1.cell 5
        have hVf := HV5.out.1.below h4
        obtain ⟨⟨r0, r1, r2, r3, r4, r5, r6⟩, f0, f1, f2, f3, f4, f5, f6⟩ := hVf.cells
        have HF := Lib.hid (And.intro hVf (And.intro h2 (And.intro h3 (And.intro hK (And.intro hD (And.intro hD2 (And.intro h6 h0)))))))
        clear h0 h1 h2 h3 h4 h5 h6 hc1 hc2 hVf hK
        gi_wp2_with (fail)
        have hd := HF.out.1.done (.bool true) (.int .u16 sz) (.int .u8 (T / 16777216)) (.int .u8 ve) (.int .u16 fl) (.slice A xs.length c) (.int .i64 0)
        have hbF := HF.out.1.shut (.bool true) (.int .u16 sz) (.int .u8 (T / 16777216)) (.int .u8 ve) (.int .u16 fl) (.slice A xs.length c) (.int .i64 0)
        obtain ⟨hVf, h2, h3, hK, hD, hD2, h6, h0⟩ := HF.out
        have hszV := HV5.out.1.sz
        generalize ((((((V.setCell ⟨w.heap.size + 1, 0, none⟩ (.bool true)).setCell ⟨w.heap.size + 1, 1, none⟩ (.int .u16 sz)).setCell ⟨w.heap.size + 1, 2, none⟩ (.int .u8 (T / 16777216))).setCell ⟨w.heap.size + 1, 3, none⟩ (.int .u8 ve)).setCell ⟨w.heap.size + 1, 4, none⟩ (.int .u16 fl)).setCell ⟨w.heap.size + 1, 5, none⟩ (.slice A xs.length c)).setCell ⟨w.heap.size + 1 + 1, 0, none⟩ (.int .i64 0) = F at hd hbF ⊢
        have hKF : F.heap[D]? = some (.deferred (some [])) := (hd.2.2.block D ⟨by omega, by omega⟩).trans hK
        have b0 : Blk (F.putObj D (.deferred none)) (w.heap.size + 1) 38 _ := (World.putObj_heap_other (by omega)).trans hd.1
        have b1 : Blk (F.putObj D (.deferred none)) (w.heap.size + 1 + 1) 28 _ := (World.putObj_heap_other (by omega)).trans hd.2.1
        have hsl : Sl (F.putObj D (.deferred none)) 2 (.slice A xs.length c) xs.length (flatO xs) :=
          (h2.keepK hd.2.2 fun g hg => by have := h3 g hg; omega).keep (by simp) fun g hg => World.putObj_heap_other (by have := h3 g hg; omega)
        have hol := optL_len dd.data.toList (dd.size + 1) 0
        have hdl := HDL.out
        have hxl : xs.length ≤ 1000001 := by rw [h0, List.length_map] at hol; omega
        refine ⟨by simp, .inl ⟨_, _, rfl, run_takeDeferred hKF, _, res_cell_cellE rfl _ _ (w.heap.size + 1) 38 _ _ ⟨w.heap.size + 1 + 1, 0, none⟩ (.int .i64 0) rfl b0 Try.underlying38 rfl agg_edns rfl (load_errno _ _ _ (b1.cell 0)), hbF.trans (belowK_b (w := w) (Nat.le_refl _) F D _ _ (by omega) hKF rfl rfl), .inr ⟨_, _, _, _, _, A, xs, c, rfl, hsl, fun g hg => by have := h3 g hg; omega, fun o ho => ?_, hxl, fun h => absurd h HENE.out⟩⟩⟩
        have := optL_fit dd.data.toList (dd.size + 1) 0 o (by rw [h0]; exact List.mem_map.2 ⟨o, ho, rfl⟩)
        exact ⟨this.1, by have := this.2; unfold maxLen; omega⟩
      case hstop =>
        rintro D X cd pre V hD hD2 hpre ⟨rfl, h1, h2, h3, h4⟩ hK
        have HK := Lib.hid (And.intro h1 (And.intro h2 (And.intro h3 (And.intro hK hD))))
        clear h1 h2 h3 h4 hK
        gi_wp2_with (fail)
        obtain ⟨h1, h2, h3, hK, hD'⟩ := HK.out
        have b0 : Blk (V.putObj D (.deferred none)) (w.heap.size + 1) 38 _ := (World.putObj_heap_other (by omega)).trans h1
        have b1 : Blk (V.putObj D (.deferred none)) (w.heap.size + 1 + 1) 28 _ := (World.putObj_heap_other (by omega)).trans h2
        exact ⟨by simp, .inl ⟨_, _, rfl, run_takeDeferred hK, _, res_cell_cellE rfl _ _ (w.heap.size + 1) 38 _ _ ⟨w.heap.size + 1 + 1, 0, none⟩ (.int .i64 2) rfl b0 Try.underlying38 rfl agg_edns rfl (load_errno _ _ _ (b1.cell 0)), h3.trans (belowK_b (w := w) (Nat.le_refl _) V D _ _ (by omega) hK rfl rfl), .inl ⟨2, by decide, rfl, HEN.out⟩⟩⟩
end Go.Proofs.Ytgfpnkakglgokaa
