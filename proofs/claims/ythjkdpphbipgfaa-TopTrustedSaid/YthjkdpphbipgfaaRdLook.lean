/- The walks of package rdata's texts, look, Check, Names. Conditions: none. -/
import Derived.Test.YthjkdpphbipgfaaRdCut
namespace Go.Proofs.Ythjkdpphbipgfaa
open Go.RowKit Go.Lib

def TextsPost (q : Option (List Bs)) (w : World) (e : Ending) (w' : World) : Prop :=
  (q = none ∧ e = .returned (.tuple #[.slice none 0 0, .bool false]) ∧ Below w.heap.size w w') ∨
  ∃ ts A c, q = some ts ∧ e = .returned (.tuple #[.slice A ts.length c, .bool true]) ∧ Sl w' 1 (.slice A ts.length c) ts.length (strs ts) ∧ (∀ i, (Value.slice A ts.length c).ownBlock = some i → w.heap.size ≤ i) ∧ Below w.heap.size w w'
theorem textsF_cons (f : Nat) (k : UInt8) (t : Bs) : textsF (f + 1) (k :: t) = if k.toNat ≤ t.length then (textsF f (t.drop k.toNat)).map (t.take k.toNat :: ·) else none := rfl
theorem texts_step {F : Option (List Bs)} {ts : List Bs} {k : UInt8} {t : Bs} (h : F = (textsF (k :: t).length (k :: t)).map (ts ++ ·)) (hk : k.toNat ≤ t.length) :
    F = (textsF (t.drop k.toNat).length (t.drop k.toNat)).map ((ts ++ [t.take k.toNat]) ++ ·) := by
  rw [h, List.length_cons, textsF_cons, if_pos hk, textsF_more t.length (t.drop k.toNat).length (t.drop k.toNat) (by simp) (Nat.le_refl _)]
  cases textsF (t.drop k.toNat).length (t.drop k.toNat) <;> simp
theorem texts_stop {F : Option (List Bs)} {ts : List Bs} {k : UInt8} {t : Bs} (h : F = (textsF (k :: t).length (k :: t)).map (ts ++ ·)) (hk : ¬ k.toNat ≤ t.length) : F = none := by
  rw [h, List.length_cons, textsF_cons, if_neg hk]
  rfl
/-- A middle piece of a string. -/
theorem mid_at (s : ByteArray) (a b : Nat) (h : a ≤ b) (hb : b ≤ s.size) : ∃ S : ByteArray, S.data.toList = (s.data.toList.take b).drop a ∧ (∀ W, (Instr.slice 9 (.string s) (some (.int .i64 (a : Int))) (some (.int .i64 (b : Int))) none).run Try.prog W = .ok (.string S) W) := by
  refine ⟨s.extract a b, ?_, fun W => slice_nat (P := Try.prog) Try.underlying9 s a b (a : Int) (b : Int) rfl rfl h hb W⟩
  simp [List.drop_take]
theorem ba_nil {s : ByteArray} (h : s.data.toList = []) : s = ⟨#[]⟩ := ba_eq h

set_option maxRecDepth 100000 in
set_option maxHeartbeats 4000000 in
theorem texts_any (s : ByteArray) (hs : s.size ≤ 1000000) (w : World) : Calls Try.prog 106 #[.string s] w (TextsPost (textsN s.data.toList) w) := by
  obtain ⟨i0, hi0, hz0, hz1, hz2⟩ := info_parts info_str
  obtain ⟨l, hl⟩ : ∃ l, s.data.toList = l := ⟨_, rfl⟩
  have hll : l.length = s.size := by rw [← hl]; simp
  rw [hl]
  have HL := Lib.hid (And.intro hl (And.intro hll hs))
  clear hl hll hs
  go_enter Try.func106, Try.ntmps106
  go_wp2_with (fail)
  go_loopg [0, 4] l.length (fun gg v0 v4 wr => ∃ (rest : ByteArray) (ts : List Bs) (n : Nat) (A : Option Addr) (c : Nat), v0 = .string rest ∧ v4 = .slice A n c ∧ Aside (gg = rest.size ∧ ts.length = n ∧ textsF l.length l = (textsF rest.data.toList.length rest.data.toList).map (ts ++ ·) ∧ rest.size + n ≤ 1000000) ∧
    Aside (Sl wr 1 (.slice A n c) n (strs ts)) ∧ Aside ((∀ i, (Value.slice A n c).ownBlock = some i → w.heap.size ≤ i) ∧ (n = 0 → A = none ∧ c = 0)) ∧ Aside (Below w.heap.size w wr))
  case atStart => exact ⟨s, [], 0, none, 0, rfl, rfl, ⟨HL.out.2.1, rfl, by rw [HL.out.1]; cases textsF l.length l <;> rfl, HL.out.2.2⟩, Sl.nil _ _, ⟨(fun i hi => by cases hi), (fun _ => ⟨rfl, rfl⟩)⟩, Below.refl _ _⟩
  case round =>
    obtain ⟨rest, ts, n, A, c, rfl, rfl, hg, hS, hO, hb⟩ := hrel
    obtain ⟨r, hr⟩ : ∃ r, rest.data.toList = r := ⟨_, rfl⟩
    have hrs : r.length = rest.size := by rw [← hr]; simp
    have hF := hg.out.2.2.1
    rw [hr] at hF
    cases r with
    | nil =>
      have hre := ba_nil hr
      subst hre
      have hFF : textsN l = if ts = [] then none else some ts := by
        unfold textsN
        rw [hF]
        simp [textsF]
      have hnI : (n : Int) ≤ 1000000 := by have := hg.out; omega
      by_cases h0 : n = 0
      · have ht : ts = [] := List.eq_nil_of_length_eq_zero (by rw [hg.out.2.1]; exact h0)
        rw [if_pos ht] at hFF
        obtain ⟨rfl, rfl⟩ := hO.out.2 h0
        have hd : decide (0 < n) = false := by simp [h0]
        have hnz := h0
        subst hnz
        have HR := Lib.hid hFF
        clear hr hrs hF hFF ht h0
        go_wp2_with (fail)
        go_ret2
        exact .inl ⟨HR.out, rfl, hb.out⟩
      · have ht : ts ≠ [] := fun e => h0 (by rw [← hg.out.2.1, e]; rfl)
        rw [if_neg ht] at hFF
        have hd : decide (0 < n) = true := by simp; omega
        have HR := Lib.hid hFF
        clear hr hrs hF hFF h0 ht
        go_wp2_with (fail)
        go_ret2
        refine .inr ⟨ts, A, c, HR.out, ?_, ?_, ?_, hb.out⟩
        · rw [hg.out.2.1]; rfl
        · rw [hg.out.2.1]; exact hS.out
        · rw [hg.out.2.1]; exact hO.out.1
    | cons k t =>
      have hpos : 0 < rest.size := by rw [← hrs]; simp
      have hb0 : (rest[0]'hpos).toNat = k.toNat := by
        have h1 := byte_get rest 0 hpos
        rw [hr] at h1
        have h2 : k = rest[0] := Option.some.inj h1
        rw [← h2]
      obtain ⟨m, hm⟩ : ∃ m, k.toNat = m := ⟨_, rfl⟩
      rw [hm] at hb0
      have hm255 : (m : Int) ≤ 255 := by have := k.toNat_lt; omega
      have hne : rest.toList.isEmpty = false := by rw [ByteArray.toList_eq, hr]; rfl
      have hne2 : ¬ rest.toList = [] := by rw [ByteArray.toList_eq, hr]; simp
      have hrI : (rest.size : Int) ≤ 1000000 := by have := hg.out.2.2.2; omega
      by_cases hk : m ≤ t.length
      · have hkI : ¬ (rest.size : Int) < 1 + (m : Int) := by rw [← hrs]; simp; omega
        have hle : 1 + m ≤ rest.size := by rw [← hrs]; simp; omega
        obtain ⟨T1, t1, hr1⟩ := mid_at rest 1 (1 + m) (by omega) hle
        obtain ⟨_, T2, _, t2, _, hr2⟩ := split_at rest (1 + m) hle
        have hcast : ((1 + m : Nat) : Int) = 1 + (m : Int) := by omega
        rw [hcast] at hr1 hr2
        rw [show ((1 : Nat) : Int) = 1 from rfl] at hr1
        rw [hr, Nat.add_comm, List.take_succ_cons, List.drop_succ_cons, List.drop_zero] at t1
        rw [hr, Nat.add_comm, List.drop_succ_cons] at t2
        have hst := texts_step hF (by rw [hm]; exact hk)
        rw [hm, ← t1, ← t2] at hst
        have hT2 : T2.size + (1 + m) = rest.size := by
          have h1 := congrArg List.length t2
          have h2 : T2.data.toList.length = T2.size := by simp
          rw [h2, List.length_drop] at h1
          simp at hrs; omega
        have HSL := Lib.hid (hS.out.alloc (.cells #[.string T1] 9))
        have HSR := Lib.hid (src_new (P := Try.prog) Try.underlying83 wr 9 (.string T1) rfl)
        have HR := Lib.hid (And.intro hst (And.intro hT2 (show n ≤ 1000000 by have := hg.out.2.2.2; omega)))
        clear hr hrs hF hst hT2 t1 t2 hk hm hle hcast
        go_wp2_with (at_builtin; go_must (refine wpList_append_sl _ rfl (.tmp 16) (.tmp 20) 83 83 rfl 9 i0 (.string ⟨#[]⟩) 1 16 Try.underlying83 hi0 hz0 hz1 hz2 rfl (.slice A n c) n _ rfl HSL.out _ rfl 1 _ HSR.out (by have := HR.out.2.2; unfold maxLen; omega) (by have := HR.out.2.2; omega) ?_); intro v5 w5 hs5 hg5 hv5; obtain ⟨A5, c5, rfl, _, _⟩ := hs5.shape; have H5 := Lib.hid (And.intro hs5 (And.intro hg5 hv5)); clear hs5 hg5 hv5)
        go_roundg T2.size
        case measure => have := hg.out.1; have := HR.out.2.1; omega
        case rel => exact ⟨T2, ts ++ [T1.data.toList], n + 1, A5, c5, rfl, rfl, ⟨rfl, by rw [List.length_append, hg.out.2.1]; rfl, HR.out.1, by have := hg.out.2.2.2; have := HR.out.2.1; omega⟩, (by show Sl _ _ _ _ _; rw [strs_snoc]; exact H5.out.1), ⟨own_from hO.out.1 (Nat.le_trans hb.out.size (by simp)) H5.out.2.2, fun e => by omega⟩, (hb.out.alloc hb.out.size _).grown H5.out.2.1 (by have := hb.out.size; simp; omega) (fun i hi => hO.out.1 i hi)⟩
      · have hkI : (rest.size : Int) < 1 + (m : Int) := by rw [← hrs]; simp; omega
        have hst := texts_stop hF (by rw [hm]; exact hk)
        have hFF : textsN l = none := by unfold textsN; rw [hst]
        have HR := Lib.hid hFF
        clear hr hrs hF hst hFF hk hm
        go_wp2_with (fail)
        go_ret2
        exact .inl ⟨HR.out, rfl, hb.out⟩
end Go.Proofs.Ythjkdpphbipgfaa
