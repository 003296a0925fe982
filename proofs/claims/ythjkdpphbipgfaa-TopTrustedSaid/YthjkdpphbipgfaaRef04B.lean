/- The walk of the reference's split (hardtackref04). Conditions: none. -/
import Derived.Test.YthjkdpphbipgfaaRef04A
namespace Go.Proofs.Ythjkdpphbipgfaa
open Go.RowKit Go.Lib

theorem formA_le (t : Int) : (formA t).1 ≤ 6 ∧ (formA t).2.1 ≤ 2 ∧ (formA t).2.2 ≤ 20 := by
  unfold formA formN
  split
  · rename_i f h
    split at h
    · cases h; decide
    · split at h
      · cases h; decide
      · split at h
        · cases h; decide
        · split at h
          · cases h; decide
          · cases h
  · decide
/-- What the reference's split cuts. -/
def splitN (t : Int) (l : Bs) : Option (List Bs × Bs) := if l.length < (formA t).1 then none else namesN (formA t).2.1 (l.drop (formA t).1)
def SplitQ (F : Option (List Bs × Bs)) (a bh : Nat) (l : Bs) (w : World) (e : Ending) (w' : World) : Prop :=
  (F = none ∧ e = .returned (.tuple #[.string ⟨#[]⟩, .slice none 0 0, .string ⟨#[]⟩, .bool false]) ∧ Below w.heap.size w w') ∨
  ∃ (ns : List Bs) (S1 r : ByteArray) (A : Option Addr) (c : Nat) (b : Bool), F = some (ns, r.data.toList) ∧ S1.data.toList = l.take a ∧ e = .returned (.tuple #[.string S1, .slice A ns.length c, .string r, .bool b]) ∧ (b = true ↔ r.size = bh) ∧
    Sl w' 1 (.slice A ns.length c) ns.length (strs ns) ∧ (∀ i, (Value.slice A ns.length c).ownBlock = some i → w.heap.size ≤ i) ∧ Below w.heap.size w w'
def SplitPost4 (t : Int) (l : Bs) : World → Ending → World → Prop := SplitQ (splitN t l) (formA t).1 (formA t).2.2 l
theorem namesN_no {k : Nat} {l : Bs} (h : nameLen l = 0) : namesN (k + 1) l = none := by unfold namesN; rw [if_pos h]
theorem namesN_yes {k : Nat} {l : Bs} (h : nameLen l ≠ 0) : namesN (k + 1) l = (namesN k (l.drop (nameLen l))).map fun p => (l.take (nameLen l) :: p.1, p.2) := by
  conv => lhs; unfold namesN
  rw [if_neg h]

set_option maxRecDepth 100000 in
set_option maxHeartbeats 8000000 in
theorem rSplit4_any (t : Int) (s : ByteArray) (hs : s.size ≤ 1000000) (w : World) : Calls Try.prog 78 #[.int .u16 t, .string s] w (SplitPost4 t s.data.toList w) := by
  obtain ⟨i0, hi0, hz0, hz1, hz2⟩ := info_parts info_str
  obtain ⟨l, hl⟩ : ∃ l, s.data.toList = l := ⟨_, rfl⟩
  have hll : l.length = s.size := by rw [← hl]; simp
  have HPA := Lib.hid (fun W => rParts_any t W)
  have hle := formA_le t
  obtain ⟨a, ha⟩ : ∃ a, (formA t).1 = a := ⟨_, rfl⟩
  obtain ⟨m, hm⟩ : ∃ m, (formA t).2.1 = m := ⟨_, rfl⟩
  obtain ⟨bh, hbh⟩ : ∃ bh, (formA t).2.2 = bh := ⟨_, rfl⟩
  obtain ⟨F, hF⟩ : ∃ F, splitN t l = F := ⟨_, rfl⟩
  have hF2 : F = if l.length < a then none else namesN m (l.drop a) := by rw [← hF, ← ha, ← hm]; rfl
  rw [ha, hm, hbh] at HPA hle
  rw [hl]
  show Calls _ _ _ w (SplitQ (splitN t l) (formA t).1 (formA t).2.2 l w)
  rw [ha, hbh, hF]
  have HL := Lib.hid (And.intro hl (And.intro hll (And.intro hs hle)))
  have hsI : (s.size : Int) ≤ 1000000 := by omega
  have haI : (a : Int) ≤ 6 := by omega
  have hmI : (m : Int) ≤ 2 := by omega
  have HF2 := Lib.hid hF2
  clear ha hm hbh hF hle hF2 hs hl hll
  go_enter Try.func78, Try.ntmps78
  go_wp2_with (fail)
  with_reducible refine (HPA.out _).mono ?_
  rintro e w1 ⟨rfl, rfl⟩
  clear HPA
  have hF2 := HF2.out
  obtain ⟨hl, hll, hs, _⟩ := HL.out
  by_cases hlt : s.size < a
  · have hI : (s.size : Int) < (a : Int) := by omega
    rw [if_pos (by omega)] at hF2
    have HF := Lib.hid hF2
    clear hF2 hlt hl hll hs
    go_wp2_with (fail)
    refine bodyPost_ret (res_tmp4 rfl _ _ _) rfl ?_
    exact .inl ⟨HF.out, rfl, Below.refl _ _⟩
  have hI : ¬ (s.size : Int) < (a : Int) := by omega
  have HD : RowKit.Hid (decide (s.size < a) = false) := Lib.hid (by simp; omega)
  rw [if_neg (by omega)] at hF2
  obtain ⟨S1, S2, t1, t2, hr1, hr2⟩ := split_at s a (by omega)
  rw [hl] at t1 t2
  rw [← t2] at hF2
  have hS2 : S2.size ≤ 1000000 := by
    have h1 := congrArg List.length t2
    have h2 : S2.data.toList.length = S2.size := by simp
    rw [h2, List.length_drop] at h1
    omega
  have HF := Lib.hid (And.intro hF2 (And.intro t1 hS2))
  clear hF2 hlt hl hll hs t1 t2 hS2
  go_wp2_with (fail)
  try simp only [HD.out]
  go_loopg [12, 13, 14] m (fun gg v12 v13 v14 wr => ∃ (i : Nat) (rest : ByteArray) (ns : List Bs) (A : Option Addr) (c : Nat), v12 = .string rest ∧ v13 = .slice A ns.length c ∧ v14 = .int .i64 (i : Int) ∧
    Aside (gg + i = m ∧ ns.length = i ∧ rest.size ≤ 1000000 ∧ F = (namesN gg rest.data.toList).map (fun p => (ns ++ p.1, p.2))) ∧ Aside (Sl wr 1 (.slice A ns.length c) ns.length (strs ns)) ∧ Aside (∀ i, (Value.slice A ns.length c).ownBlock = some i → w1.heap.size ≤ i) ∧ Aside (Below w1.heap.size w1 wr))
  case atStart => exact ⟨0, S2, [], none, 0, rfl, rfl, rfl, ⟨rfl, rfl, HF.out.2.2, by rw [HF.out.1]; cases namesN m S2.data.toList <;> rfl⟩, Sl.nil _ _, (show ∀ i, _ → _ from fun i hi => by cases hi), Below.refl _ _⟩
  case round =>
    obtain ⟨i, rest, ns, A, c, rfl, rfl, rfl, hg, hS, hO, hb⟩ := hrel
    by_cases hi : i < m
    · have hiI : (i : Int) < (m : Int) := by omega
      obtain ⟨q, hq⟩ : ∃ q, m - (i + 1) = q := ⟨_, rfl⟩
      have hgq : gk = q + 1 := by have := hg.out.1; omega
      have hFi := hg.out.2.2.2
      rw [hgq] at hFi
      have HFR := Lib.hid (rFirst_any rest hg.out.2.2.1 wr)
      obtain ⟨rl, hrl⟩ : ∃ rl, rest.data.toList = rl := ⟨_, rfl⟩
      have hrs : rl.length = rest.size := by rw [← hrl]; simp
      rw [hrl] at hFi HFR
      by_cases h0 : nameLen rl = 0
      · rw [namesN_no h0] at hFi
        rw [show decide (0 < nameLen rl) = false by simp; omega] at HFR
        have HFI := Lib.hid hFi
        clear hFi hrl hrs h0 hgq hq hi
        go_wp2_with (fail)
        with_reducible refine HFR.out.mono ?_
        rintro e w4 ⟨rfl, hb4⟩
        have B4 := Lib.hid (hb.out.trans (hb4.mono hb.out.size))
        clear hb4 HFR
        go_wp2_with (fail)
        refine bodyPost_ret (res_tmp4 rfl _ _ _) rfl ?_
        exact .inl ⟨HFI.out, rfl, B4.out⟩
      · rw [namesN_yes h0] at hFi
        rw [show decide (0 < nameLen rl) = true by simp; omega] at HFR
        have hn := nameLen_is (l := rl) rfl (by omega)
        obtain ⟨k, hk⟩ : ∃ k, nameLen rl = k := ⟨_, rfl⟩
        rw [hk] at hn hFi HFR h0
        obtain ⟨T1, T2, t1, t2, _, hr4⟩ := split_at rest k (by omega)
        rw [hrl] at t1 t2
        rw [← t1, ← t2] at hFi
        have hT1 : (⟨(rl.take k).toArray⟩ : ByteArray) = T1 := ba_eq (by rw [t1])
        rw [hT1] at HFR
        have hT1s : T1.size = k := by
          have h1 := congrArg List.length t1
          have h2 : T1.data.toList.length = T1.size := by simp
          rw [h2, List.length_take] at h1
          omega
        rw [← hT1s] at hr4
        have hT2s : T2.size ≤ 1000000 := by
          have h1 := congrArg List.length t2
          have h2 : T2.data.toList.length = T2.size := by simp
          rw [h2, List.length_drop] at h1
          have := hg.out.2.2.1; omega
        have hT1I : (T1.size : Int) ≤ (rest.size : Int) := by omega
        have hns : ns.length ≤ 2 := by have := hg.out; have := HL.out; omega
        have HFI := Lib.hid (And.intro hFi (And.intro hT2s (And.intro hgq (And.intro hq (And.intro hi hns)))))
        clear hFi hrl hrs h0 hgq hq hi hn hk t1 t2 hT1 hT1s hT2s hns
        go_wp2_with (fail)
        with_reducible refine HFR.out.mono ?_
        rintro e w4 ⟨rfl, hb4⟩
        have B4 := Lib.hid (hb.out.trans (hb4.mono hb.out.size))
        have S4 := Lib.hid (hS.out.below hb4 fun i hi => hS.out.lt i hi)
        clear hb4 HFR
        go_wp2_with (at_builtin; go_must (refine wpList_append_sl _ rfl (.tmp 43) (.tmp 45) 83 83 rfl 9 i0 (.string ⟨#[]⟩) 1 16 Try.underlying83 hi0 hz0 hz1 hz2 rfl (.slice A ns.length c) ns.length _ rfl (S4.out.alloc _) _ rfl 1 _ (src_new (P := Try.prog) Try.underlying83 w4 9 (.string T1) rfl) (by have := HFI.out.2.2.2.2.2; unfold maxLen; omega) (by have := HFI.out.2.2.2.2.2; omega) ?_); intro v5 w5 hs5 hg5 hv5; obtain ⟨A5, c5, rfl, _, _⟩ := hs5.shape; have H5 := Lib.hid (And.intro hs5 (And.intro hg5 hv5)); clear hs5 hg5 hv5)
        go_roundg (m - (i + 1))
        case measure => have := hg.out.1; have := HFI.out; omega
        case rel =>
          refine ⟨i + 1, T2, ns ++ [T1.data.toList], A5, c5, rfl, by rw [List.length_append]; rfl, by go_num, ⟨by have := HFI.out; omega, by rw [List.length_append, hg.out.2.1]; rfl, HFI.out.2.1, ?_⟩, ?_, (by rw [List.length_append]; exact own_from hO.out (Nat.le_trans B4.out.size (by simp)) H5.out.2.2), (B4.out.alloc B4.out.size _).grown H5.out.2.1 (by have := B4.out.size; simp; omega) hO.out⟩
          · rw [HFI.out.1, HFI.out.2.2.2.1]
            cases namesN q T2.data.toList <;> simp
          · rw [List.length_append, strs_snoc]; exact H5.out.1
    · have hiI : ¬ (i : Int) < (m : Int) := by omega
      have hgq : gk = 0 := by have := hg.out.1; omega
      have hFi := hg.out.2.2.2
      rw [hgq] at hFi
      have HFI := Lib.hid hFi
      clear hFi hgq hi
      go_wp2_with (fail)
      refine bodyPost_ret (res_tmp4 rfl _ _ _) rfl ?_
      refine .inr ⟨ns, S1, rest, A, c, _, by rw [HFI.out]; simp [namesN], HF.out.2.1, rfl, ?_, hS.out, hO.out, hb.out⟩
      simp
      omega
end Go.Proofs.Ythjkdpphbipgfaa
