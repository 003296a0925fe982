/- The walks of package pack's Reader: Open, Bad, fail, Raw, Num, At. The walk of package pack's Reader's Num. The walk of package rdata's Addr. Conditions: none. The walk of package rdata's Least (turned from RdNum, over ReaderS). Conditions: none. -/
import Derived.Test.YthnngndnpigjbaaGreatRet
import Derived.Test.YthnngndnpigjbaaGreatSl
import Derived.Test.YthnngndnpigjbaaGreatChecked
import Derived.Laws.BytesString
import Derived.Laws.IdiomStrings
import Derived.OwnWalk
import Derived.Deep.LoopGhost
import Derived.Deep.Light
import Derived.Deep.QuietTactic
import Derived.BigQuiet
import Derived.Outline
import Derived.Lib.BufferWrite
import Derived.Lib.SlBuf
import Derived.ChangeKeysEq
import Derived.Laws.Bits64b
import Derived.Test.YthnngndnpigjbaaGreatRdCheck
namespace Go.Proofs.YthnngndnpigjbaaGreat
open Go.RowKit

theorem info_u8' : (Tryz.prog.info? 5).map (fun i => (i.zero, i.size, i.bytes)) = some (some (.int .u8 0), 1, 1) := by kernel_rfl
theorem byteCells_b8 (s : ByteArray) : byteCells s = s.data.toList.map b8 := rfl

theorem wide_yes (k : Nat) (h : k = 1 ∨ k = 2 ∨ k = 4 ∨ k = 8) (w : World) : Calls Tryz.prog 93 #[.int .i64 (k : Int)] w fun e w' => e = .returned (.bool true) ∧ w = w' := by
  rcases h with rfl | rfl | rfl | rfl
  all_goals
    go_enter Tryz.func93, Tryz.ntmps93
    go_wp2
    go_ret
    exact ⟨rfl, rfl⟩

/-- A reader at block b: its bytes, its place, whether it is bad. -/
def Rd (w : World) (b : Nat) (s : ByteArray) (at' : Nat) (bad : Bool) : Prop := Blk w b 158 #[.string s, .int .i64 (at' : Int), .bool bad]
/-- All but the block b is as it was. -/
def But (b : Nat) (w w' : World) : Prop := KeepK (fun i => i < w.heap.size ∧ i ≠ b) w w'
theorem But.refl (b : Nat) (w : World) : But b w w := KeepK.refl _ _
theorem But.trans {b : Nat} {u v w : World} (h : But b u v) (k : But b v w) : But b u w :=
  KeepK.trans h (KeepK.mono k fun _ hi => ⟨Nat.lt_of_lt_of_le hi.1 h.size, hi.2⟩)
theorem But.of_below {b : Nat} {u v : World} (h : Below u.heap.size u v) : But b u v := KeepK.of_below h fun _ hi => hi.1
theorem But.below {b B : Nat} {u v : World} (h : But b u v) (hb : B ≤ b) (hB : B ≤ u.heap.size) : Below B u v := KeepK.below h fun i hi => ⟨by omega, by omega⟩
theorem But.blk {b g : Nat} {u v : World} {t : TypeId} {cs : Array Value} (h : But b u v) (hB : Blk u g t cs) (hg : g ≠ b) : Blk v g t cs := hB.keepK h ⟨hB.lt, hg⟩

theorem rOpen_any (s : ByteArray) (w : World) : Calls Tryz.prog 79 #[.string s] w fun e w' => e = .returned (.pointer (some ⟨w.heap.size, 0, none⟩)) ∧ Rd w' w.heap.size s 0 false ∧ Below w.heap.size w w' := by
  go_enter Tryz.func79, Tryz.ntmps79
  go_wp2
  go_ret
  exact ⟨rfl, Blk.new w _ _, (Below.refl _ _).alloc (Nat.le_refl _) _⟩
theorem rBad_any {w : World} {b : Nat} {s : ByteArray} {at' : Nat} {bad : Bool} (h : Rd w b s at' bad) : Calls Tryz.prog 96 #[.pointer (some ⟨b, 0, none⟩)] w fun e w' => e = .returned (.bool bad) ∧ w = w' := by
  have c2 : w.cell? ⟨b, 2, none⟩ = some (.bool bad) := Blk.cell h 2
  clear h
  go_enter Tryz.func96, Tryz.ntmps96
  go_wp2
  go_ret
  exact ⟨rfl, rfl⟩
theorem rfail_any {w : World} {b : Nat} {s : ByteArray} {at' : Nat} {bad : Bool} (h : Rd w b s at' bad) : Calls Tryz.prog 94 #[.pointer (some ⟨b, 0, none⟩)] w fun e w' => e = .returned (.tuple #[]) ∧ Rd w' b s at' true ∧ But b w w' := by
  have c2 : w.cell? ⟨b, 2, none⟩ = some (.bool bad) := Blk.cell h 2
  have f2 := Blk.frozen h 2
  have H := Lib.hid h
  clear h
  go_enter Tryz.func94, Tryz.ntmps94
  go_wp2
  refine bodyPost_end (results_none rfl _ _ _) rfl ?_
  exact ⟨rfl, Blk.set_ H.out 2 _, (KeepK.refl _ _).setCell (fun i hi => hi.2) _⟩
theorem rRaw_bad {w : World} {b : Nat} {s : ByteArray} {at' : Nat} (h : Rd w b s at' true) (n : Int) : Calls Tryz.prog 95 #[.pointer (some ⟨b, 0, none⟩), .int .i64 n] w fun e w' => e = .returned (.string ⟨#[]⟩) ∧ w = w' := by
  have H := Lib.hid (rBad_any h)
  clear h
  go_enter Tryz.func95, Tryz.ntmps95
  go_wp2_with (fail)
  refine H.out.mono ?_
  rintro e w' ⟨rfl, rfl⟩
  go_wp2_with (fail)
  go_ret
  exact ⟨rfl, rfl⟩

set_option maxRecDepth 100000 in
set_option maxHeartbeats 1000000 in
theorem rRaw_no {w : World} {b : Nat} {s : ByteArray} {at' : Nat} (h : Rd w b s at' false) (n : Int) (hs : s.size ≤ maxLen) (ha : at' ≤ s.size) (hn : n < 0 ∨ (s.size : Int) - at' < n) :
    Calls Tryz.prog 95 #[.pointer (some ⟨b, 0, none⟩), .int .i64 n] w fun e w' => e = .returned (.string ⟨#[]⟩) ∧ Rd w' b s at' true ∧ But b w w' := by
  have H := Lib.hid (rBad_any h)
  have HF := Lib.hid (fun k => rfail_any (w := w.drewN k) (h : Rd (w.drewN k) b s at' false))
  have c0 : w.cell? ⟨b, 0, none⟩ = some (.string s) := Blk.cell h 0
  have c1 : w.cell? ⟨b, 1, none⟩ = some (.int .i64 (at' : Int)) := Blk.cell h 1
  unfold maxLen at hs
  have e1 : IntKind.i64.wrap ((s.size : Int) - (at' : Int)) = (s.size : Int) - (at' : Int) := IntWalk.i64_in _ (by omega)
  have hd : decide (n < 0) = true ∨ (decide (n < 0) = false ∧ decide ((s.size : Int) - (at' : Int) < n) = true) := by
    by_cases h0 : n < 0
    · left; simp [h0]
    · right; simp; omega
  clear h hs ha hn
  rcases hd with d1 | ⟨d1, d2⟩
  all_goals
    go_enter Tryz.func95, Tryz.ntmps95
    go_wp2_with (fail)
    refine H.out.mono ?_
    rintro e w' ⟨rfl, rfl⟩
    go_wp2_with (fail)
    go_quiet (fail)
    go_wp2_with (fail)
    refine (HF.out _).mono ?_
    rintro e w1 ⟨rfl, h1, h2⟩
    have H1 := Lib.hid (And.intro h1 h2)
    clear h1 h2
    go_wp2_with (fail)
    go_ret
    exact ⟨rfl, H1.out.1, ((But.refl b w).drewN _).trans H1.out.2⟩

set_option maxRecDepth 100000 in
set_option maxHeartbeats 1000000 in
theorem rRaw_yes {w : World} {b : Nat} {s : ByteArray} {at' : Nat} (h : Rd w b s at' false) (n : Nat) (hs : s.size ≤ maxLen) (hn : at' + n ≤ s.size) :
    Calls Tryz.prog 95 #[.pointer (some ⟨b, 0, none⟩), .int .i64 (n : Int)] w fun e w' => e = .returned (.string (s.extract at' (at' + n))) ∧ Rd w' b s (at' + n) false ∧ But b w w' := by
  have H := Lib.hid (rBad_any h)
  have H0 := Lib.hid h
  have c0 : w.cell? ⟨b, 0, none⟩ = some (.string s) := Blk.cell h 0
  have c1 : w.cell? ⟨b, 1, none⟩ = some (.int .i64 (at' : Int)) := Blk.cell h 1
  have f1 := Blk.frozen h 1
  unfold maxLen at hs
  have e1 : IntKind.i64.wrap ((s.size : Int) - (at' : Int)) = (s.size : Int) - (at' : Int) := IntWalk.i64_in _ (by omega)
  have d1 : decide ((n : Int) < 0) = false := by simp
  have d2 : decide ((s.size : Int) - (at' : Int) < (n : Int)) = false := by simp; omega
  have b1 : (at' : Int) + (n : Int) ≤ 9223372036854775807 := by omega
  have HN := Lib.hid hn
  clear h hs hn
  go_enter Tryz.func95, Tryz.ntmps95
  go_wp2_with (fail)
  refine H.out.mono ?_
  rintro e w' ⟨rfl, rfl⟩
  go_wp2_with (fail)
  go_quiet (fail)
  go_wp2_with (fail)
  obtain ⟨p, hp⟩ : ∃ p : Nat, at' + n = p := ⟨_, rfl⟩
  have hpi : (at' : Int) + (n : Int) = (p : Int) := by omega
  rw [hpi]
  have hR : Rd ((w.drewN nq).setCell ⟨b, 1, none⟩ (.int .i64 (p : Int))) b s p false := Blk.set_ (Blk.drewN H0.out nq) 1 _
  have hBt : But b w ((w.drewN nq).setCell ⟨b, 1, none⟩ (.int .i64 (p : Int))) := ((KeepK.refl _ w).drewN nq).setCell (fun i hi => hi.2) _
  generalize (w.drewN nq).setCell ⟨b, 1, none⟩ (.int .i64 (p : Int)) = V at hR hBt ⊢
  have k0 : V.cell? ⟨b, 0, none⟩ = some (.string s) := Blk.cell hR 0
  have k1 : V.cell? ⟨b, 1, none⟩ = some (.int .i64 (p : Int)) := Blk.cell hR 1
  have e2 : IntKind.i64.wrap ((p : Int) - (n : Int)) = (at' : Int) := by
    rw [← hpi, show (at' : Int) + n - n = at' by omega]; exact IntWalk.i64_in _ (by omega)
  have hn' := HN.out
  have g1 : (at' : Int) ≤ (p : Int) := by omega
  have g2 : (p : Int) ≤ (s.size : Int) := by omega
  have HR := Lib.hid (And.intro hR (And.intro hBt hp))
  clear hpi hp hn' c0 c1 f1 e1 d1 d2 b1 hR hBt
  go_quiet (fail)
  go_wp2_with (fail)
  go_ret
  obtain ⟨hR, hBt, hp⟩ := HR.out
  rw [hp]
  exact ⟨rfl, hR, hBt.drewN _⟩
end Go.Proofs.YthnngndnpigjbaaGreat

namespace Go.Proofs.YthnngndnpigjbaaGreat
open Go.RowKit

/-- The number whose bytes these are, the highest first. -/
def beN (l : List UInt8) : Nat := l.foldl (fun n c => n * 256 + c.toNat) 0
theorem beN_snoc (l : List UInt8) (c : UInt8) : beN (l ++ [c]) = beN l * 256 + c.toNat := by unfold beN; rw [List.foldl_append]; rfl
theorem beF_lt : ∀ (l : List UInt8) (n : Nat), l.foldl (fun n c => n * 256 + c.toNat) n < (n + 1) * 256 ^ l.length
  | [], n => by simp
  | c :: l, n => by
    have h := beF_lt l (n * 256 + c.toNat)
    have hc := c.toNat_lt
    rw [List.foldl_cons, List.length_cons, Nat.pow_succ, Nat.mul_comm (256 ^ l.length) 256, ← Nat.mul_assoc]
    exact Nat.lt_of_lt_of_le h (Nat.mul_le_mul_right _ (by omega))
theorem beN_lt (l : List UInt8) : beN l < 256 ^ l.length := by have := beF_lt l 0; simpa [beN] using this
theorem beN_zeros (n : Nat) (l : List UInt8) : beN (List.replicate n 0 ++ l) = beN l := by
  have h0 : ∀ n : Nat, (List.replicate n (0 : UInt8)).foldl (fun n c => n * 256 + c.toNat) 0 = 0 := by
    intro n
    induction n with
    | zero => rfl
    | succ n ih => rw [List.replicate_succ, List.foldl_cons]; simpa using ih
  unfold beN
  rw [List.foldl_append, h0]
theorem beN_or (n : Nat) (c : UInt8) (h : n < 256 ^ 7) : bits .or .u64 ((n : Int) * 256) (c.toNat : Int) = ((n * 256 + c.toNat : Nat) : Int) := by
  have hc := c.toNat_lt
  have h1 : (n : Int) * 256 = ((n * 256 : Nat) : Int) := by omega
  rw [h1, bits_or_u64_nat _ _ (by omega) (by omega)]
  have := Nat.two_pow_add_eq_or_of_lt (i := 8) (b := c.toNat) (by omega) n
  rw [show n * 256 = 2 ^ 8 * n by omega, ← this]

theorem run_index_arr {P : Program} {T e : TypeId} {len : Nat} {i : TypeInfo} (hT : P.underlying T = some (.array len e)) (he : P.plainKey e = true) (hi : P.info? e = some i) (hs : i.size = 1) {cs : Array Value} {j : Nat} {v : Value} (hj : j < len) (hv : cs[j]? = some v) (w : World) :
    (Instr.index T (.agg cs) (.int .i64 (j : Int))).run P w = .ok v w := by
  have hj2 : (j : Int) < (len : Int) := by omega
  simp [Instr.index, asIntOf, run_underlying hT, hj2, sizeOf, typeInfo, hi, hs, run_part_plain w he hv, hj]

theorem zeros8 : #[Value.int .u8 0, .int .u8 0, .int .u8 0, .int .u8 0, .int .u8 0, .int .u8 0, .int .u8 0, .int .u8 0] = ((List.replicate 8 (0 : UInt8)).map b8).toArray := rfl
/-- The cells behind the copy. -/
def arrL (k : Nat) (x : List UInt8) : List UInt8 := List.replicate (8 - k) 0 ++ x
theorem arrL_length {k : Nat} {x : List UInt8} (hx : x.length = k) (hk : k ≤ 8) : (arrL k x).length = 8 := by simp [arrL]; omega
theorem arr_copy {k : Nat} {x : List UInt8} (hx : x.length = k) (hk : k ≤ 8) :
    ((((List.replicate 8 (0 : UInt8)).map b8).toArray).toList.take (8 - k) ++ x.map b8 ++ (((List.replicate 8 (0 : UInt8)).map b8).toArray).toList.drop (8 - k + k)) = (arrL k x).map b8 := by
  have h1 : 8 - k + k = 8 := by omega
  rw [h1]
  simp only [List.map_replicate, List.take_replicate, List.drop_replicate, Nat.sub_self, List.replicate_zero, List.append_nil, arrL, List.map_append]
  rw [show min (8 - k) 8 = 8 - k by omega]

set_option maxRecDepth 100000 in
set_option maxHeartbeats 2000000 in
theorem rNum_yes {w : World} {b : Nat} {s : ByteArray} {at' : Nat} (h : Rd w b s at' false) (k : Nat) (hk : k = 1 ∨ k = 2 ∨ k = 4 ∨ k = 8) (hs : s.size ≤ maxLen) (hn : at' + k ≤ s.size) :
    Calls Tryz.prog 80 #[.pointer (some ⟨b, 0, none⟩), .int .i64 (k : Int)] w fun e w' => e = .returned (.int .u64 (beN ((s.extract at' (at' + k)).data.toList) : Int)) ∧ Rd w' b s (at' + k) false ∧ But b w w' := by
  have HW := Lib.hid (fun W => wide_yes k hk W)
  have HK := Lib.hid hk
  have HR := Lib.hid (rRaw_yes h k hs hn)
  obtain ⟨x, hx⟩ : ∃ x, s.extract at' (at' + k) = x := ⟨_, rfl⟩
  have hxs : x.size = k := by rw [← hx]; simp; omega
  rw [hx] at HR ⊢
  have hbl := Blk.lt h
  have hk8 : 1 ≤ k ∧ k ≤ 8 := by omega
  obtain ⟨hk1, hk2⟩ := hk8
  have HX := Lib.hid hxs
  have HIX := Lib.hid (fun (cs : Array Value) (j : Nat) (v : Value) (hj : j < 8) (hv : cs[j]? = some v) (W : World) => by
    obtain ⟨i0, hi, hz0, hz1, hz2⟩ := info_parts info_u8'
    exact run_index_arr (P := Tryz.prog) (T := 160) Tryz.underlying160 (by kernel_rfl) hi hz1 hj hv W)
  clear h hk hn hs hx hxs
  go_enter Tryz.func80, Tryz.ntmps80
  go_wp2_with (fail)
  refine (HW.out _).mono ?_
  rintro e w' ⟨rfl, rfl⟩
  go_wp2_with (fail)
  refine HR.out.mono ?_
  rintro e w1 ⟨rfl, h1, h2⟩
  have HB1 := Lib.hid (rBad_any h1)
  have H1 := Lib.hid (And.intro h1 h2)
  have hbl1 := Blk.lt h1
  clear h1 h2 HW HR
  go_wp2_with (fail)
  refine HB1.out.mono ?_
  rintro e w2 ⟨rfl, rfl⟩
  have hA : Blk (w1.alloc (.cells #[.int .u8 0, .int .u8 0, .int .u8 0, .int .u8 0, .int .u8 0, .int .u8 0, .int .u8 0, .int .u8 0] 160)) w1.heap.size 160 ((List.replicate 8 (0 : UInt8)).map b8).toArray := by rw [← zeros8]; exact Blk.new w1 _ _
  have hcp : ∀ cap, (Builtin.copy_ #[106, 9] 3 #[.slice (some ⟨w1.heap.size, 8 - k, none⟩) k cap, .string x]).run Tryz.prog (w1.alloc (.cells #[.int .u8 0, .int .u8 0, .int .u8 0, .int .u8 0, .int .u8 0, .int .u8 0, .int .u8 0, .int .u8 0] 160)) = .ok (.int .i64 (x.size : Int)) ((w1.alloc (.cells #[.int .u8 0, .int .u8 0, .int .u8 0, .int .u8 0, .int .u8 0, .int .u8 0, .int .u8 0, .int .u8 0] 160)).setRow w1.heap.size ((arrL k x.data.toList).map b8).toArray) := by
    intro cap
    have hxl : x.data.toList.length = k := by have := HX.out; simpa using this
    have := Lib.run_copy_row_string (P := Tryz.prog) _ 106 9 3 5 w1.heap.size (8 - k) k cap x _ _ Tryz.underlying106 (by kernel_rfl) hA (by rw [HX.out]; exact Nat.le_refl _) (by rw [HX.out]; simp; omega)
    rw [HX.out] at this
    rw [HX.out, this]
    congr 2
    exact congrArg List.toArray (arr_copy hxl hk2)
  have hxl : x.data.toList.length = k := by have := HX.out; simpa using this
  have hV0 : Blk ((w1.alloc (.cells #[.int .u8 0, .int .u8 0, .int .u8 0, .int .u8 0, .int .u8 0, .int .u8 0, .int .u8 0, .int .u8 0] 160)).setRow w1.heap.size ((arrL k x.data.toList).map b8).toArray) w1.heap.size 160 ((arrL k x.data.toList).map b8).toArray := setRow_heap _ _ _ _ _ _ hA
  have hV1 : But b w1 ((w1.alloc (.cells #[.int .u8 0, .int .u8 0, .int .u8 0, .int .u8 0, .int .u8 0, .int .u8 0, .int .u8 0, .int .u8 0] 160)).setRow w1.heap.size ((arrL k x.data.toList).map b8).toArray) := by
    refine ⟨rfl, rfl, rfl, by simp [World.setRow], fun i hi => ?_⟩
    rw [setRow_other _ _ _ _ (by omega)]
    exact Below.heap_alloc w1 _ i hi.1
  have hV2 : Rd ((w1.alloc (.cells #[.int .u8 0, .int .u8 0, .int .u8 0, .int .u8 0, .int .u8 0, .int .u8 0, .int .u8 0, .int .u8 0] 160)).setRow w1.heap.size ((arrL k x.data.toList).map b8).toArray) b s (at' + k) false := by
    have := H1.out.1
    unfold Rd Blk at this ⊢
    rw [setRow_other _ _ _ _ (by omega)]
    exact (Below.heap_alloc w1 _ b hbl1).trans this
  have HV := Lib.hid (And.intro hV2 hV1)
  have hlen := arrL_length hxl hk2
  have hval : beN (arrL k x.data.toList) = beN x.data.toList := beN_zeros _ _
  have hbe : beN x.data.toList < 18446744073709551616 := by
    have := beN_lt x.data.toList
    rw [hxl] at this
    exact Nat.lt_of_lt_of_le this (Nat.le_trans (Nat.pow_le_pow_right (by decide) hk2) (by decide))
  have HVAL := Lib.hid (And.intro hval (And.intro hlen hbe))
  have HV0 := Lib.hid hV0
  clear hV0 hV1 hV2 hA hval hlen hbe hxl
  generalize (w1.alloc (.cells #[.int .u8 0, .int .u8 0, .int .u8 0, .int .u8 0, .int .u8 0, .int .u8 0, .int .u8 0, .int .u8 0] 160)).setRow w1.heap.size ((arrL k x.data.toList).map b8).toArray = V at hcp HV HV0
  have hV0 : V.heap[w1.heap.size]? = some (.cells ((arrL k x.data.toList).map b8).toArray 160 (0, 0)) := HV0.out
  have hsz8 : (Tryz.prog.info? 160).map (·.size) = some ((arrL k x.data.toList).map b8).toArray.size := by
    rw [List.size_toArray, List.length_map, HVAL.out.2.1]
    kernel_rfl
  have HL := Lib.hid (And.intro hV0 hsz8)
  clear hV0 hsz8
  generalize hq : arrL k x.data.toList = q at HVAL HL
  have HIX' := Lib.hid (fun (j : Nat) (c : UInt8) (hj : j < 8) (hv : q[j]? = some c) (W : World) => HIX.out (q.map b8).toArray j (b8 c) hj (by simp [hv]) W)
  generalize ha : (q.map b8).toArray = arr at HL HIX'
  clear ha hq HIX HV0
  rcases HK.out with rfl | rfl | rfl | rfl
  all_goals
    simp only [Nat.reduceSub] at hcp
    go_wp2_with (first | (refine Lib.wpList_copy_run _ rfl (.tmp 22) (.tmp 23) 106 9 rfl _ _ rfl rfl (hcp _) ?_; clear hcp) | (refine wpList_load_row rfl 160 (.tmp 6) rfl _ rfl _ _ _ _ HL.out.1 Tryz.underlying160 rfl HL.out.2 ?_))
    go_loopg [7, 26] 8 (fun g s7 s26 wr => ∃ j : Nat, g + j = 8 ∧ s26 = .int .i64 (j : Int) ∧ s7 = .int .u64 (beN (q.take j) : Int) ∧ wr = V)
    case atStart => exact ⟨0, by omega, rfl, rfl, rfl⟩
    case round =>
      obtain ⟨j, hj, rfl, rfl, rfl⟩ := hrel
      by_cases hlt : j < 8
      · obtain ⟨c, hc⟩ : ∃ c, q[j]? = some c := ⟨_, List.getElem?_eq_getElem (by have := HVAL.out.2.1; omega)⟩
        have hix := HIX'.out j c hlt hc
        unfold b8 at hix
        have hsn : beN (q.take (j + 1)) = beN (q.take j) * 256 + c.toNat := by
          rw [List.take_add_one, hc]; exact beN_snoc _ _
        have hnl : beN (q.take j) < 256 ^ 7 := by
          have := beN_lt (q.take j)
          exact Nat.lt_of_lt_of_le this (Nat.pow_le_pow_right (by decide) (by rw [List.length_take]; omega))
        generalize beN (q.take j) = n at hsn hnl ⊢
        have hor := beN_or n c hnl
        have hc256 := c.toNat_lt
        have hn1 : (n : Int) * 256 ≤ 18446744073709551615 := by omega
        have hn0 : (0 : Int) ≤ (n : Int) * 256 := by omega
        have HSN := Lib.hid hsn
        clear hsn hnl hc
        go_wp2_with (fail)
        go_roundg (8 - (j + 1))
        case measure => omega
        case rel => exact ⟨j + 1, by omega, by go_num, by rw [HSN.out]; first | rfl | go_num | (congr 1; omega), rfl⟩
      · obtain rfl : j = 8 := by omega
        have hq8 : beN (q.take 8) = beN x.data.toList := by
          rw [List.take_of_length_le (by rw [HVAL.out.2.1]; exact Nat.le_refl _), HVAL.out.1]
        rw [hq8]
        clear hq8
        go_wp2_with (fail)
        go_ret
        exact ⟨rfl, HV.out.1, H1.out.2.trans HV.out.2⟩

set_option maxRecDepth 100000 in
set_option maxHeartbeats 1000000 in
theorem rNum_no {w : World} {b : Nat} {s : ByteArray} {at' : Nat} (h : Rd w b s at' false) (k : Nat) (hk : k = 1 ∨ k = 2 ∨ k = 4 ∨ k = 8) (hs : s.size ≤ maxLen) (ha : at' ≤ s.size) (hn : s.size < at' + k) :
    Calls Tryz.prog 80 #[.pointer (some ⟨b, 0, none⟩), .int .i64 (k : Int)] w fun e w' => e = .returned (.int .u64 0) ∧ Rd w' b s at' true ∧ But b w w' := by
  have HW := Lib.hid (fun W => wide_yes k hk W)
  have HR := Lib.hid (rRaw_no h (k : Int) hs ha (by omega))
  clear h hk hn hs ha
  go_enter Tryz.func80, Tryz.ntmps80
  go_wp2_with (fail)
  refine (HW.out _).mono ?_
  rintro e w' ⟨rfl, rfl⟩
  go_wp2_with (fail)
  refine HR.out.mono ?_
  rintro e w1 ⟨rfl, h1, h2⟩
  have HB1 := Lib.hid (rBad_any h1)
  have H1 := Lib.hid (And.intro h1 h2)
  clear h1 h2 HW HR
  go_wp2_with (fail)
  refine HB1.out.mono ?_
  rintro e w2 ⟨rfl, rfl⟩
  go_wp2_with (fail)
  go_ret
  exact ⟨rfl, H1.out.1, H1.out.2⟩

set_option maxRecDepth 100000 in
set_option maxHeartbeats 1000000 in
theorem rNum_bad {w : World} {b : Nat} {s : ByteArray} {at' : Nat} (h : Rd w b s at' true) (k : Nat) (hk : k = 1 ∨ k = 2 ∨ k = 4 ∨ k = 8) :
    Calls Tryz.prog 80 #[.pointer (some ⟨b, 0, none⟩), .int .i64 (k : Int)] w fun e w' => e = .returned (.int .u64 0) ∧ w = w' := by
  have HW := Lib.hid (fun W => wide_yes k hk W)
  have HR := Lib.hid (rRaw_bad h (k : Int))
  have HB1 := Lib.hid (rBad_any h)
  clear h hk
  go_enter Tryz.func80, Tryz.ntmps80
  go_wp2_with (fail)
  refine (HW.out _).mono ?_
  rintro e w' ⟨rfl, rfl⟩
  go_wp2_with (fail)
  refine HR.out.mono ?_
  rintro e w1 ⟨rfl, rfl⟩
  go_wp2_with (fail)
  refine HB1.out.mono ?_
  rintro e w2 ⟨rfl, rfl⟩
  go_wp2_with (fail)
  go_ret
  exact ⟨rfl, rfl⟩
end Go.Proofs.YthnngndnpigjbaaGreat

namespace Go.Proofs.YthnngndnpigjbaaGreat
open Go.RowKit Go.Lib

theorem take_byte (s : ByteArray) (a k : Nat) (_h : a + k ≤ s.size) : (s.extract a (a + k)).data.toList = (s.data.toList.drop a).take k := by
  simp

def addrN (l : Bs) : Int × Int := if okD 1 l = true then ((beN l : Int), 0) else (0, 2)
end Go.Proofs.YthnngndnpigjbaaGreat

namespace Go.Proofs.YthnngndnpigjbaaGreat
open Go.RowKit Go.Lib

def leastN (l : Bs) : Int × Int := if okD 6 l = true then ((beN (l.drop (l.length - 4)) : Int), 0) else (0, 2)
set_option maxRecDepth 100000 in
set_option maxHeartbeats 2000000 in
theorem least_any (s : ByteArray) (hs : s.size ≤ 140737488355328) (w : World) : Calls Tryz.prog 63 #[.string s] w fun e w' => e = .returned (.tuple #[.int .u32 (leastN s.data.toList).1, .int .i64 (leastN s.data.toList).2]) ∧ Below w.heap.size w w' := by
  have HCK := Lib.hid (rdCheck_any 6 s hs w)
  unfold leastN
  cases hok : okD 6 s.data.toList with
  | false =>
    rw [chk_no hok] at HCK
    rw [if_neg (by decide)]
    clear hok hs
    go_enter Tryz.func63, Tryz.ntmps63
    go_wp2_with (fail)
    with_reducible refine HCK.out.mono ?_
    rintro e w1 ⟨rfl, hb⟩
    have HB := Lib.hid hb
    clear hb
    go_wp2_with (fail)
    go_ret2
    exact ⟨rfl, HB.out⟩
  | true =>
    rw [chk_ok hok] at HCK
    rw [if_pos rfl]
    have h4 := okD_soa hok
    have hsl : s.data.toList.length = s.size := by simp
    obtain ⟨_, S, _, hSd, _, hsl2⟩ := split_at s (s.size - 4) (by omega)
    have hcast : ((s.size - 4 : Nat) : Int) = (s.size : Int) - 4 := by omega
    rw [hcast] at hsl2
    have hS4 : S.data.toList.length = 4 := by rw [hSd, List.length_drop]; omega
    have hSs : S.size = 4 := by have : S.data.toList.length = S.size := by simp
                                omega
    have hext : (S.extract 0 (0 + 4)).data.toList = S.data.toList := by
      have := take_byte S 0 4 (by omega)
      rw [List.drop_zero, List.take_of_length_le (by omega)] at this
      exact this
    rw [hsl, ← hSd]
    obtain ⟨N, hN⟩ : ∃ N, beN S.data.toList = N := ⟨_, rfl⟩
    have hNl : N < 4294967296 := by
      have := beN_lt S.data.toList
      rw [hN, hS4] at this
      exact this
    have HNU := Lib.hid (fun (W : World) (b : Nat) (h : Rd W b S 0 false) => rNum_yes h 4 (by omega) (by rw [hSs]; decide) (by omega))
    rw [hext, hN] at HNU
    rw [hN]
    have HO := Lib.hid (fun W => rOpen_any S W)
    have hNI : (N : Int) ≤ 4294967295 := by omega
    have hsI : (4 : Int) ≤ (s.size : Int) := by omega
    have hsI2 : (s.size : Int) ≤ 4096 := by omega
    clear hok hs h4 hext hN hNl hsl hSd hcast hS4 hSs
    go_enter Tryz.func63, Tryz.ntmps63
    go_wp2_with (fail)
    with_reducible refine HCK.out.mono ?_
    rintro e w1 ⟨rfl, hb⟩
    have HB := Lib.hid hb
    clear hb HCK
    go_wp2_with (fail)
    with_reducible refine (HO.out _).mono ?_
    rintro e w2 ⟨rfl, hr, hb⟩
    have HX := Lib.hid (And.intro (HNU.out w2 _ hr) (And.intro HB.out.size (HB.out.trans (hb.mono HB.out.size))))
    clear hr hb HO HNU
    go_wp2_with (fail)
    refine HX.out.1.mono ?_
    rintro e w3 ⟨rfl, _, hbt⟩
    have HY := Lib.hid (HX.out.2.2.trans (But.below hbt HX.out.2.1 HX.out.2.2.size))
    clear hbt
    go_wp2_with (fail)
    go_ret2
    exact ⟨rfl, HY.out⟩
end Go.Proofs.YthnngndnpigjbaaGreat
