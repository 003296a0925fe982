/- The walks of the reference's Parts, first, texts (hardtackref04). Conditions: none. -/
import Derived.Test.YthjkdpphbipgfaaRdLook
import Derived.Test.YthjkdpphbipgfaaRefFold
namespace Go.Proofs.Ythjkdpphbipgfaa
open Go.RowKit Go.Lib

theorem res_tmp4 {fn : Func} {t u v x : Tmp} (h : fn.results = #[.tmp t, .tmp u, .tmp v, .tmp x]) (tmps : Array Value) (P : Program) (w : World) :
    (results fn tmps).run P w = .ok (.tuple #[tmps.getD t undef, tmps.getD u undef, tmps.getD v undef, tmps.getD x undef]) w := by
  simp [results, h]
/-- The reference's numbers of a form. -/
def formA (t : Int) : Nat × Nat × Nat := match formN t with
  | some f => (2 * f.1, f.2.1, 4 * f.2.2)
  | none => (0, 0, 0)
theorem formA_other {t : Int} (h1 : t ≠ 2) (h2 : t ≠ 5) (h3 : t ≠ 12) (h4 : t ≠ 15) (h5 : t ≠ 33) (h6 : t ≠ 6) : formN t = none := by
  unfold formN
  rw [if_neg (by omega), if_neg h4, if_neg h5, if_neg h6]
set_option maxRecDepth 100000 in
set_option maxHeartbeats 4000000 in
theorem rParts_any (t : Int) (w : World) : Calls Try.prog 76 #[.int .u16 t] w fun e w' => e = .returned (.tuple #[.int .i64 ((formA t).1 : Int), .int .i64 ((formA t).2.1 : Int), .int .i64 ((formA t).2.2 : Int), .bool (formN t).isSome]) ∧ w' = w := by
  by_cases h1 : t = 2
  · subst h1
    go_enter Try.func76, Try.ntmps76
    go_wp2_with (fail)
    refine bodyPost_ret (res_tmp4 rfl _ _ _) rfl ?_
    exact ⟨rfl, rfl⟩
  by_cases h2 : t = 5
  · subst h2
    go_enter Try.func76, Try.ntmps76
    go_wp2_with (fail)
    refine bodyPost_ret (res_tmp4 rfl _ _ _) rfl ?_
    exact ⟨rfl, rfl⟩
  by_cases h3 : t = 12
  · subst h3
    go_enter Try.func76, Try.ntmps76
    go_wp2_with (fail)
    refine bodyPost_ret (res_tmp4 rfl _ _ _) rfl ?_
    exact ⟨rfl, rfl⟩
  by_cases h4 : t = 15
  · subst h4
    go_enter Try.func76, Try.ntmps76
    go_wp2_with (fail)
    refine bodyPost_ret (res_tmp4 rfl _ _ _) rfl ?_
    exact ⟨rfl, rfl⟩
  by_cases h5 : t = 33
  · subst h5
    go_enter Try.func76, Try.ntmps76
    go_wp2_with (fail)
    refine bodyPost_ret (res_tmp4 rfl _ _ _) rfl ?_
    exact ⟨rfl, rfl⟩
  by_cases h6 : t = 6
  · subst h6
    go_enter Try.func76, Try.ntmps76
    go_wp2_with (fail)
    refine bodyPost_ret (res_tmp4 rfl _ _ _) rfl ?_
    exact ⟨rfl, rfl⟩
  have q1 : (t == 2) = false := by simp [h1]
  have q2 : (t == 5) = false := by simp [h2]
  have q3 : (t == 12) = false := by simp [h3]
  have q4 : (t == 15) = false := by simp [h4]
  have q5 : (t == 33) = false := by simp [h5]
  have q6 : (t == 6) = false := by simp [h6]
  have HT := Lib.hid (formA_other h1 h2 h3 h4 h5 h6)
  clear h1 h2 h3 h4 h5 h6
  go_enter Try.func76, Try.ntmps76
  go_wp2_with (fail)
  refine bodyPost_ret (res_tmp4 rfl _ _ _) rfl ?_
  unfold formA
  rw [HT.out]
  exact ⟨rfl, rfl⟩

set_option maxRecDepth 100000 in
set_option maxHeartbeats 4000000 in
theorem rFirst_any (s : ByteArray) (hs : s.size ≤ 1000000) (w : World) : Calls Try.prog 105 #[.string s] w fun e w' => e = .returned (.tuple #[.string ⟨(s.data.toList.take (nameLen s.data.toList)).toArray⟩, .bool (decide (0 < nameLen s.data.toList))]) ∧ Below w.heap.size w w' := by
  obtain ⟨l, hl⟩ : ∃ l, s.data.toList = l := ⟨_, rfl⟩
  have hll : l.length = s.size := by rw [← hl]; simp
  rw [hl]
  have HL := Lib.hid (And.intro hl (And.intro hll hs))
  have hsI : (s.size : Int) ≤ 1000000 := by omega
  clear hl hll hs
  go_enter Try.func105, Try.ntmps105
  go_wp2_with (fail)
  go_loopg [4] 256 (fun gg v4 wr => ∃ k : Nat, v4 = .int .i64 (k : Int) ∧ Aside (gg + k = 257 ∧ 1 ≤ k ∧ k ≤ 256 ∧ (∀ j, 1 ≤ j → j < k → j ≤ l.length → isName (l.take j) = false)) ∧ Aside (Below w.heap.size w wr))
  case atStart => exact ⟨1, rfl, ⟨rfl, Nat.le_refl _, by decide, fun j h1 h2 => by omega⟩, Below.refl _ _⟩
  case round =>
    obtain ⟨k, rfl, hg, hb⟩ := hrel
    have hk256 : (k : Int) ≤ 256 := by have := hg.out; omega
    by_cases hin : k ≤ s.size ∧ k ≤ 255
    · have h1I : (k : Int) ≤ (s.size : Int) := by omega
      have h2I : (k : Int) ≤ 255 := by omega
      obtain ⟨X, _, hX, _, hsl, _⟩ := split_at s k hin.1
      rw [HL.out.1] at hX
      have hXs : X.size ≤ 255 := by
        have h1 := congrArg List.length hX
        have h2 : X.data.toList.length = X.size := by simp
        rw [h2, List.length_take] at h1
        omega
      have HCK := Lib.hid (fun W => rCheck_any X (by unfold maxLen; omega) W)
      rw [hX] at HCK
      cases hn : isName (l.take k) with
      | true =>
        have hck : chkN (l.take k) = 0 := by unfold chkN; rw [if_pos hn]
        rw [hck] at HCK
        have hnl := nameLen_take (by rw [HL.out.2.1]; exact hin.1) hn
        have HF := Lib.hid (And.intro hnl (And.intro hX hg.out.2.1))
        clear hn hck hnl hX hXs hin
        go_wp2_with (fail)
        with_reducible refine (HCK.out _).mono ?_
        rintro e w4 ⟨rfl, hb4⟩
        have B4 := Lib.hid (hb.out.trans (hb4.mono hb.out.size))
        clear hb4 HCK
        go_wp2_with (fail)
        go_ret2
        refine ⟨?_, B4.out⟩
        have hXe : X = ⟨(l.take k).toArray⟩ := ba_eq (by rw [HF.out.2.1])
        rw [HF.out.1, hXe, show decide (0 < k) = true by have := HF.out.2.2; simp; omega]
        rfl
      | false =>
        have hck : chkN (l.take k) = 2 := by unfold chkN; rw [if_neg (by rw [hn]; decide)]
        rw [hck] at HCK
        have HF := Lib.hid hn
        have hk255 := hin.2
        have HK := Lib.hid hk255
        clear hn hck hX hXs hin hk255
        go_wp2_with (fail)
        with_reducible refine (HCK.out _).mono ?_
        rintro e w4 ⟨rfl, hb4⟩
        have B4 := Lib.hid (hb.out.trans (hb4.mono hb.out.size))
        clear hb4 HCK
        go_wp2_with (fail)
        go_roundg (256 - k)
        case measure => have := hg.out; have := HK.out; omega
        case rel =>
          refine ⟨k + 1, by go_num, ⟨by have := hg.out; have := HK.out; omega, by omega, by have := HK.out; omega, fun j h1 h2 h3 => ?_⟩, B4.out⟩
          by_cases hj : j = k
          · rw [hj]; exact HF.out
          · exact hg.out.2.2.2 j h1 (by omega) h3
    · have hnl : nameLen l = 0 := by
        by_cases h0 : nameLen l = 0
        · exact h0
        · exfalso
          have h1 := nameLen_is (l := l) rfl (by omega)
          have h2 := hg.out.2.2.2 (nameLen l) (by omega) (by have := HL.out.2.1; omega) h1.1
          rw [h1.2.2.1] at h2
          cases h2
      have HF := Lib.hid hnl
      clear hnl
      by_cases hks : k ≤ s.size
      · have h1I : (k : Int) ≤ (s.size : Int) := by omega
        have h2I : ¬ (k : Int) ≤ 255 := by omega
        have hdk : decide (k ≤ s.size) = true := by simp; omega
        clear hin hks
        go_wp2_with (fail)
        go_ret2
        exact ⟨by rw [HF.out]; rfl, hb.out⟩
      · have h1I : ¬ (k : Int) ≤ (s.size : Int) := by omega
        have hdk : decide (k ≤ s.size) = false := by simp; omega
        clear hin hks
        go_wp2_with (fail)
        go_ret2
        exact ⟨by rw [HF.out]; rfl, hb.out⟩

set_option maxRecDepth 100000 in
set_option maxHeartbeats 4000000 in
theorem rTexts_any (s : ByteArray) (hs : s.size ≤ 1000000) (w : World) : Calls Try.prog 104 #[.string s] w (TextsPost (textsN s.data.toList) w) := by
  obtain ⟨i0, hi0, hz0, hz1, hz2⟩ := info_parts info_str
  obtain ⟨l, hl⟩ : ∃ l, s.data.toList = l := ⟨_, rfl⟩
  have hll : l.length = s.size := by rw [← hl]; simp
  rw [hl]
  have HL := Lib.hid (And.intro hl (And.intro hll hs))
  clear hl hll hs
  go_enter Try.func104, Try.ntmps104
  go_wp2_with (fail)
  go_loopg [0, 4] l.length (fun gg v0 v4 wr => ∃ (rest : ByteArray) (ts : List Bs) (n : Nat) (A : Option Addr) (c : Nat), v0 = .string rest ∧ v4 = .slice A n c ∧ Aside (gg = rest.size ∧ ts.length = n ∧ textsF l.length l = (textsF rest.data.toList.length rest.data.toList).map (ts ++ ·) ∧ rest.size + n ≤ 1000000) ∧
    Aside (Sl wr 1 (.slice A n c) n (strs ts)) ∧ Aside ((∀ i, (Value.slice A n c).ownBlock = some i → w.heap.size ≤ i) ∧ (n = 0 → A = none ∧ c = 0)) ∧ Aside (Below w.heap.size w wr))
  case atStart => exact ⟨s, [], 0, none, 0, rfl, rfl, ⟨HL.out.2.1, rfl, by rw [HL.out.1]; cases textsF l.length l <;> rfl, HL.out.2.2⟩, Sl.nil _ _, ⟨(fun i hi => by cases hi), (fun _ => ⟨rfl, rfl⟩)⟩, Below.refl _ _⟩
  case round =>
    obtain ⟨rest, ts, n, A, c, rfl, rfl, hg, hS, hO, hb⟩ := hrel
    obtain ⟨r, hr⟩ : ∃ r, rest.data.toList = r := ⟨_, rfl⟩
    have hrs : r.length = rest.size := by rw [← hr]; simp
    have hF := hg.out.2.2.1
    rw [hr] at hF
    cases r with
    | nil =>
      have hre := ba_nil hr
      subst hre
      have hFF : textsN l = if ts = [] then none else some ts := by
        unfold textsN
        rw [hF]
        simp [textsF]
      have hnI : (n : Int) ≤ 1000000 := by have := hg.out; omega
      by_cases h0 : n = 0
      · have ht : ts = [] := List.eq_nil_of_length_eq_zero (by rw [hg.out.2.1]; exact h0)
        rw [if_pos ht] at hFF
        obtain ⟨rfl, rfl⟩ := hO.out.2 h0
        have hd : decide (0 < n) = false := by simp [h0]
        have hnz := h0
        subst hnz
        have HR := Lib.hid hFF
        clear hr hrs hF hFF ht h0
        go_wp2_with (fail)
        go_ret2
        exact .inl ⟨HR.out, rfl, hb.out⟩
      · have ht : ts ≠ [] := fun e => h0 (by rw [← hg.out.2.1, e]; rfl)
        rw [if_neg ht] at hFF
        have hd : decide (0 < n) = true := by simp; omega
        have HR := Lib.hid hFF
        clear hr hrs hF hFF h0 ht
        go_wp2_with (fail)
        go_ret2
        refine .inr ⟨ts, A, c, HR.out, ?_, ?_, ?_, hb.out⟩
        · rw [hg.out.2.1]; rfl
        · rw [hg.out.2.1]; exact hS.out
        · rw [hg.out.2.1]; exact hO.out.1
    | cons k t =>
      have hpos : 0 < rest.size := by rw [← hrs]; simp
      have hb0 : (rest[0]'hpos).toNat = k.toNat := by
        have h1 := byte_get rest 0 hpos
        rw [hr] at h1
        have h2 : k = rest[0] := Option.some.inj h1
        rw [← h2]
      obtain ⟨m, hm⟩ : ∃ m, k.toNat = m := ⟨_, rfl⟩
      rw [hm] at hb0
      have hm255 : (m : Int) ≤ 255 := by have := k.toNat_lt; omega
      have hne : rest.toList.isEmpty = false := by rw [ByteArray.toList_eq, hr]; rfl
      have hne2 : ¬ rest.toList = [] := by rw [ByteArray.toList_eq, hr]; simp
      have hrI : (rest.size : Int) ≤ 1000000 := by have := hg.out.2.2.2; omega
      by_cases hk : m ≤ t.length
      · have hkI : ¬ (rest.size : Int) < 1 + (m : Int) := by rw [← hrs]; simp; omega
        have hle : 1 + m ≤ rest.size := by rw [← hrs]; simp; omega
        obtain ⟨T1, t1, hr1⟩ := mid_at rest 1 (1 + m) (by omega) hle
        obtain ⟨_, T2, _, t2, _, hr2⟩ := split_at rest (1 + m) hle
        have hcast : ((1 + m : Nat) : Int) = 1 + (m : Int) := by omega
        rw [hcast] at hr1 hr2
        rw [show ((1 : Nat) : Int) = 1 from rfl] at hr1
        rw [hr, Nat.add_comm, List.take_succ_cons, List.drop_succ_cons, List.drop_zero] at t1
        rw [hr, Nat.add_comm, List.drop_succ_cons] at t2
        have hst := texts_step hF (by rw [hm]; exact hk)
        rw [hm, ← t1, ← t2] at hst
        have hT2 : T2.size + (1 + m) = rest.size := by
          have h1 := congrArg List.length t2
          have h2 : T2.data.toList.length = T2.size := by simp
          rw [h2, List.length_drop] at h1
          simp at hrs; omega
        have HSL := Lib.hid (hS.out.alloc (.cells #[.string T1] 9))
        have HSR := Lib.hid (src_new (P := Try.prog) Try.underlying83 wr 9 (.string T1) rfl)
        have HR := Lib.hid (And.intro hst (And.intro hT2 (show n ≤ 1000000 by have := hg.out.2.2.2; omega)))
        clear hr hrs hF hst hT2 t1 t2 hk hm hle hcast
        go_wp2_with (at_builtin; go_must (refine wpList_append_sl _ rfl (.tmp 16) (.tmp 21) 83 83 rfl 9 i0 (.string ⟨#[]⟩) 1 16 Try.underlying83 hi0 hz0 hz1 hz2 rfl (.slice A n c) n _ rfl HSL.out _ rfl 1 _ HSR.out (by have := HR.out.2.2; unfold maxLen; omega) (by have := HR.out.2.2; omega) ?_); intro v5 w5 hs5 hg5 hv5; obtain ⟨A5, c5, rfl, _, _⟩ := hs5.shape; have H5 := Lib.hid (And.intro hs5 (And.intro hg5 hv5)); clear hs5 hg5 hv5)
        go_roundg T2.size
        case measure => have := hg.out.1; have := HR.out.2.1; omega
        case rel => exact ⟨T2, ts ++ [T1.data.toList], n + 1, A5, c5, rfl, rfl, ⟨rfl, by rw [List.length_append, hg.out.2.1]; rfl, HR.out.1, by have := hg.out.2.2.2; have := HR.out.2.1; omega⟩, (by show Sl _ _ _ _ _; rw [strs_snoc]; exact H5.out.1), ⟨own_from hO.out.1 (Nat.le_trans hb.out.size (by simp)) H5.out.2.2, fun e => by omega⟩, (hb.out.alloc hb.out.size _).grown H5.out.2.1 (by have := hb.out.size; simp; omega) (fun i hi => hO.out.1 i hi)⟩
      · have hkI : (rest.size : Int) < 1 + (m : Int) := by rw [← hrs]; simp; omega
        have hst := texts_stop hF (by rw [hm]; exact hk)
        have hFF : textsN l = none := by unfold textsN; rw [hst]
        have HR := Lib.hid hFF
        clear hr hrs hF hst hFF hk hm
        go_wp2_with (fail)
        go_ret2
        exact .inl ⟨HR.out, rfl, hb.out⟩
end Go.Proofs.Ythjkdpphbipgfaa
