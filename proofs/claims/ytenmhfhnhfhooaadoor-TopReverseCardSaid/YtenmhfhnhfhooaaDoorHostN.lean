/- The walks of hosts.numbers, labels, Reverse, Zone. Condition: the table of powers lies in memory as the program's text lays it. -/
import Derived.Shelf.Spec.TrailingZeros
import Derived.Test.YtenmhfhnhfhooaaDoorFmtU
import Derived.Test.YtenmhfhnhfhooaaDoorRev
import Derived.Test.YtenmhfhnhfhooaaDoorJoin
namespace Go.Proofs.YtenmhfhnhfhooaaDoor
open Go.RowKit Go.Lib

/-- An address' k-th number, the highest first. -/
def numA (a k : Nat) : Nat := a / 256 ^ (3 - k) % 256
theorem numA_lt (a k : Nat) : numA a k < 256 := Nat.mod_lt _ (by decide)
/-- Its first k numbers as words. -/
def numsA (a k : Nat) : List Bs := (List.range k).map fun i => Lib.decDigits (numA a i)
theorem numsA_succ (a k : Nat) : numsA a (k + 1) = numsA a k ++ [Lib.decDigits (numA a k)] := by
  unfold numsA; rw [List.range_succ, List.map_append]; rfl
theorem numsA_length (a k : Nat) : (numsA a k).length = k := by simp [numsA]
theorem pow_below {w w' : World} (h : PowTab w) (hb : Below w.heap.size w w') : PowTab w' := by
  unfold PowTab Lib.TabIs World.var? at *
  cases hg : Tryd.prog.globalNamed "internal/strconv.uint64pow10" with
  | none => rw [hg] at h; simp at h
  | some g =>
    rw [hg] at h
    simp only [Option.bind_some] at h ⊢
    have hlt : g < w.heap.size := by
      rcases Nat.lt_or_ge g w.heap.size with h1 | h1
      · exact h1
      · rw [Array.getElem?_eq_none h1] at h; simp at h
    rw [hb.block g hlt]
    exact h
theorem sl_make4 (w : World) : Sl (w.alloc (.cells #[.string ⟨#[]⟩, .string ⟨#[]⟩, .string ⟨#[]⟩, .string ⟨#[]⟩] 9)) 1 (.slice (some ⟨w.heap.size, 0, none⟩) 0 4) 0 [] := by
  refine ⟨rfl, .inr ⟨w.heap.size, 4, rfl, by simp, by omega, by unfold maxLen; omega, fun j hj => ?_, fun j u hu => by simp at hu⟩⟩
  have hB := Blk.new w 9 #[.string ⟨#[]⟩, .string ⟨#[]⟩, .string ⟨#[]⟩, .string ⟨#[]⟩]
  refine ⟨?_, hB.frozen j⟩
  rw [hB.cell j]
  match j, hj with
  | 0, _ => rfl
  | 1, _ => rfl
  | 2, _ => rfl
  | 3, _ => rfl
  | j + 4, h => omega

theorem and255 (x : Nat) (hx : x ≤ 4294967295) : IntKind.u64.wrap (bits .and .u32 (x : Int) 255) = ((x % 256 : Nat) : Int) := by
  have h := bits_and_u32_nat x 255 (by omega) (by decide)
  rw [show ((255 : Nat) : Int) = 255 from rfl, show (255 : Nat) = 2 ^ 8 - 1 from rfl, Nat.and_two_pow_sub_one_eq_mod] at h
  rw [h]
  have W := fun x : Int => show IntKind.u64.wrap x = x % 18446744073709551616 by simp [IntKind.wrap, IntKind.signed, IntKind.bits]
  rw [W]
  omega
theorem num_0 (a : Nat) (ha : a ≤ 4294967295) : IntKind.u64.wrap (bits .and .u32 ((a : Int) / 16777216) 255) = (numA a 0 : Int) := by
  rw [show (a : Int) / 16777216 = ((a / 16777216 : Nat) : Int) by omega, and255 _ (by omega)]; rfl
theorem num_1 (a : Nat) (ha : a ≤ 4294967295) : IntKind.u64.wrap (bits .and .u32 ((a : Int) / 65536) 255) = (numA a 1 : Int) := by
  rw [show (a : Int) / 65536 = ((a / 65536 : Nat) : Int) by omega, and255 _ (by omega)]; rfl
theorem num_2 (a : Nat) (ha : a ≤ 4294967295) : IntKind.u64.wrap (bits .and .u32 ((a : Int) / 256) 255) = (numA a 2 : Int) := by
  rw [show (a : Int) / 256 = ((a / 256 : Nat) : Int) by omega, and255 _ (by omega)]; rfl
theorem num_3 (a : Nat) (ha : a ≤ 4294967295) : IntKind.u64.wrap (bits .and .u32 (a : Int) 255) = (numA a 3 : Int) := by
  rw [and255 _ ha]; simp [numA]

set_option maxRecDepth 100000 in
set_option maxHeartbeats 4000000 in
theorem numbers_any (a : Nat) (ha : a ≤ 4294967295) (w : World) (htab : PowTab w) :
    Calls Tryd.prog 27 #[.int .u32 (a : Int)] w fun e w' => ∃ A c, e = .returned (.slice A 4 c) ∧ Sl w' 1 (.slice A 4 c) 4 (strs (numsA a 4)) ∧ (∀ g, (Value.slice A 4 c).ownBlock = some g → w.heap.size ≤ g) ∧ Below w.heap.size w w' := by
  obtain ⟨i0, hi0, hz0, hz1, hz2⟩ := info_parts info_str
  have hmk : (Instr.makeSlice 36 (.int .i64 0) (.int .i64 4)).run Tryd.prog w = .ok (.slice (some ⟨w.heap.size, 0, none⟩) 0 4) (w.alloc (.cells #[.string ⟨#[]⟩, .string ⟨#[]⟩, .string ⟨#[]⟩, .string ⟨#[]⟩] 9)) := by kernel_rfl
  have HS := Lib.hid (sl_make4 w)
  have HT := Lib.hid htab
  have haI : (a : Int) ≤ 4294967295 := by omega
  clear htab
  go_enter Tryd.func27, Tryd.ntmps27
  go_wp2_with (fail)
  go_loopg [3, 4] 5 (fun g v3 v4 wr => ∃ k : Nat, g + k = 5 ∧ (k = 0 ∧ v4 = .int .i64 24 ∨ k = 1 ∧ v4 = .int .i64 16 ∨ k = 2 ∧ v4 = .int .i64 8 ∨ k = 3 ∧ v4 = .int .i64 0 ∨ k = 4 ∧ v4 = .int .i64 (-8)) ∧ Aside (Sl wr 1 v3 k (strs (numsA a k))) ∧ Aside (∀ g, v3.ownBlock = some g → w.heap.size ≤ g) ∧ Aside (Below w.heap.size w wr))
  case atStart => exact ⟨0, by omega, .inl ⟨rfl, rfl⟩, HS.out, (show Aside _ from fun g hg => by simp [Value.ownBlock] at hg; omega), (Below.refl _ _).alloc (Nat.le_refl _) _⟩
  case round =>
    obtain ⟨k, hk, hc, hsl, hown, hbw⟩ := hrel
    rcases hc with ⟨rfl, rfl⟩ | ⟨rfl, rfl⟩ | ⟨rfl, rfl⟩ | ⟨rfl, rfl⟩ | ⟨rfl, rfl⟩
    · have hw := num_0 a ha
      have hlt := numA_lt a 0
      have HF := Lib.hid (fmtU_any (numA a 0) (by omega) wr (pow_below HT.out hbw.out))
      have HSn := Lib.hid (show strs (numsA a 1) = strs (numsA a 0) ++ [.string ⟨(Lib.decDigits (numA a 0)).toArray⟩] by rw [numsA_succ, strs_snoc])
      go_wp2_with (fail)
      refine HF.out.mono ?_
      rintro e w1 ⟨rfl, hb⟩
      have hsl1 := Lib.hid (hsl.out.below hb hsl.out.lt)
      have hbw1 := Lib.hid (hbw.out.trans (hb.mono hbw.out.size))
      clear hb
      go_wp2_with (at_builtin; refine wpList_append_sl _ rfl (.tmp 10) (.tmp 17) 36 36 rfl 9 i0 (.string ⟨#[]⟩) 1 16 Tryd.underlying36 hi0 hz0 hz1 hz2 rfl u3 0 (strs (numsA a 0)) rfl (hsl1.out.alloc _) _ rfl 1 [.string ⟨(Lib.decDigits (numA a 0)).toArray⟩] (src_new Tryd.underlying36 w1 _ _ rfl) (by unfold maxLen; omega) (by omega) ?_; intro v' w2 hs' hg' hv')
      have hown' := own_from hown.out (by have := hbw1.out.size; simp; omega) hv'
      have hb1 : Below w.heap.size w w2 := (hbw1.out.alloc hbw1.out.size _).grown hg' (by have := hbw1.out.size; simp; omega) hown.out
      go_wp2_with (fail)
      go_roundg (5 - (0 + 1))
      case measure => omega
      case rel =>
        refine ⟨1, by omega, by simp, ?_, hown', hb1⟩
        show Sl _ _ _ _ _
        rw [HSn.out]
        exact hs'
    · have hw := num_1 a ha
      have hlt := numA_lt a 1
      have HF := Lib.hid (fmtU_any (numA a 1) (by omega) wr (pow_below HT.out hbw.out))
      have HSn := Lib.hid (show strs (numsA a 2) = strs (numsA a 1) ++ [.string ⟨(Lib.decDigits (numA a 1)).toArray⟩] by rw [numsA_succ, strs_snoc])
      go_wp2_with (fail)
      refine HF.out.mono ?_
      rintro e w1 ⟨rfl, hb⟩
      have hsl1 := Lib.hid (hsl.out.below hb hsl.out.lt)
      have hbw1 := Lib.hid (hbw.out.trans (hb.mono hbw.out.size))
      clear hb
      go_wp2_with (at_builtin; refine wpList_append_sl _ rfl (.tmp 10) (.tmp 17) 36 36 rfl 9 i0 (.string ⟨#[]⟩) 1 16 Tryd.underlying36 hi0 hz0 hz1 hz2 rfl u3 1 (strs (numsA a 1)) rfl (hsl1.out.alloc _) _ rfl 1 [.string ⟨(Lib.decDigits (numA a 1)).toArray⟩] (src_new Tryd.underlying36 w1 _ _ rfl) (by unfold maxLen; omega) (by omega) ?_; intro v' w2 hs' hg' hv')
      have hown' := own_from hown.out (by have := hbw1.out.size; simp; omega) hv'
      have hb1 : Below w.heap.size w w2 := (hbw1.out.alloc hbw1.out.size _).grown hg' (by have := hbw1.out.size; simp; omega) hown.out
      go_wp2_with (fail)
      go_roundg (5 - (1 + 1))
      case measure => omega
      case rel =>
        refine ⟨2, by omega, by simp, ?_, hown', hb1⟩
        show Sl _ _ _ _ _
        rw [HSn.out]
        exact hs'
    · have hw := num_2 a ha
      have hlt := numA_lt a 2
      have HF := Lib.hid (fmtU_any (numA a 2) (by omega) wr (pow_below HT.out hbw.out))
      have HSn := Lib.hid (show strs (numsA a 3) = strs (numsA a 2) ++ [.string ⟨(Lib.decDigits (numA a 2)).toArray⟩] by rw [numsA_succ, strs_snoc])
      go_wp2_with (fail)
      refine HF.out.mono ?_
      rintro e w1 ⟨rfl, hb⟩
      have hsl1 := Lib.hid (hsl.out.below hb hsl.out.lt)
      have hbw1 := Lib.hid (hbw.out.trans (hb.mono hbw.out.size))
      clear hb
      go_wp2_with (at_builtin; refine wpList_append_sl _ rfl (.tmp 10) (.tmp 17) 36 36 rfl 9 i0 (.string ⟨#[]⟩) 1 16 Tryd.underlying36 hi0 hz0 hz1 hz2 rfl u3 2 (strs (numsA a 2)) rfl (hsl1.out.alloc _) _ rfl 1 [.string ⟨(Lib.decDigits (numA a 2)).toArray⟩] (src_new Tryd.underlying36 w1 _ _ rfl) (by unfold maxLen; omega) (by omega) ?_; intro v' w2 hs' hg' hv')
      have hown' := own_from hown.out (by have := hbw1.out.size; simp; omega) hv'
      have hb1 : Below w.heap.size w w2 := (hbw1.out.alloc hbw1.out.size _).grown hg' (by have := hbw1.out.size; simp; omega) hown.out
      go_wp2_with (fail)
      go_roundg (5 - (2 + 1))
      case measure => omega
      case rel =>
        refine ⟨3, by omega, by simp, ?_, hown', hb1⟩
        show Sl _ _ _ _ _
        rw [HSn.out]
        exact hs'
    · have hw := num_3 a ha
      have hlt := numA_lt a 3
      have HF := Lib.hid (fmtU_any (numA a 3) (by omega) wr (pow_below HT.out hbw.out))
      have HSn := Lib.hid (show strs (numsA a 4) = strs (numsA a 3) ++ [.string ⟨(Lib.decDigits (numA a 3)).toArray⟩] by rw [numsA_succ, strs_snoc])
      go_wp2_with (fail)
      refine HF.out.mono ?_
      rintro e w1 ⟨rfl, hb⟩
      have hsl1 := Lib.hid (hsl.out.below hb hsl.out.lt)
      have hbw1 := Lib.hid (hbw.out.trans (hb.mono hbw.out.size))
      clear hb
      go_wp2_with (at_builtin; refine wpList_append_sl _ rfl (.tmp 10) (.tmp 17) 36 36 rfl 9 i0 (.string ⟨#[]⟩) 1 16 Tryd.underlying36 hi0 hz0 hz1 hz2 rfl u3 3 (strs (numsA a 3)) rfl (hsl1.out.alloc _) _ rfl 1 [.string ⟨(Lib.decDigits (numA a 3)).toArray⟩] (src_new Tryd.underlying36 w1 _ _ rfl) (by unfold maxLen; omega) (by omega) ?_; intro v' w2 hs' hg' hv')
      have hown' := own_from hown.out (by have := hbw1.out.size; simp; omega) hv'
      have hb1 : Below w.heap.size w w2 := (hbw1.out.alloc hbw1.out.size _).grown hg' (by have := hbw1.out.size; simp; omega) hown.out
      go_wp2_with (fail)
      go_roundg (5 - (3 + 1))
      case measure => omega
      case rel =>
        refine ⟨4, by omega, by simp, ?_, hown', hb1⟩
        show Sl _ _ _ _ _
        rw [HSn.out]
        exact hs'
    · obtain ⟨A, c, rfl, _, _⟩ := hsl.out.shape
      go_wp2_with (fail)
      go_ret
      exact ⟨A, c, rfl, hsl.out, hown.out, hbw.out⟩
end Go.Proofs.YtenmhfhnhfhooaaDoor
