/- The walks of hosts.labels, Reverse, Zone. Condition: the table of powers lies in memory as the program's text lays it. -/
import Derived.Test.YtenmhfhnhfhooaaDoorHostN
import Derived.Test.YtenmhfhnhfhooaaDoorStrsP
namespace Go.Proofs.YtenmhfhnhfhooaaDoor
open Go.RowKit Go.Lib

/-- The labels of an address' reverse name. -/
def labsA (a : Nat) : List Bs := (numsA a 4).reverse ++ [[105, 110, 45, 97, 100, 100, 114], [97, 114, 112, 97]]
theorem labsA_length (a : Nat) : (labsA a).length = 6 := by simp [labsA, numsA_length]
def n0 : ByteArray := ⟨#[0]⟩
theorem src_two1 {P : Program} {tx e' : TypeId} (hk : P.underlying tx = some (.slice e')) (w : World) (t : TypeId) (a b : Value) (h1 : a.oneCell' = true) (h2 : b.oneCell' = true) : Src P 1 tx (.slice (some ⟨w.heap.size, 0, none⟩) 2 2) 2 [a, b] (w.alloc (.cells #[a, b] t)) := by
  exact Src.ofSlice _ hk ⟨w.heap.size, 0, none⟩ 2 2 [a, b] rfl (fun j x hx => by
    match j, hx with
    | 0, hx => simp at hx; subst hx; simp [Addr.add]
    | 1, hx => simp at hx; subst hx; simp [Addr.add]
    | j + 2, hx => simp at hx) (fun x hx => by
    simp at hx
    rcases hx with rfl | rfl <;> assumption)
theorem strs_eq (ls : List Bs) : strs ls = (ls.map fun x => (⟨x.toArray⟩ : ByteArray)).map Value.string := by simp [strs]
theorem rev_strs (A : Option Addr) (c : Nat) (ls : List Bs) (w : World) (n : Nat) (hl : ls.length = n) (h : Sl w 1 (.slice A n c) n (strs ls)) (hn : n ≤ 1000000) :
    Calls Tryd.prog 18 #[.slice A n c] w fun e w' => e = .returned (.tuple #[]) ∧ Sl w' 1 (.slice A n c) n (strs ls.reverse) ∧ KeepK (fun i => i < w.heap.size ∧ (Value.slice A n c).ownBlock ≠ some i) w w' := by
  subst hl
  have h1 := reverse_any A c (ls.map fun x => (⟨x.toArray⟩ : ByteArray)) w (by rw [← strs_eq, List.length_map]; exact h) (by rw [List.length_map]; exact hn)
  rw [List.length_map, ← List.map_reverse, ← strs_eq] at h1
  exact h1

set_option maxRecDepth 100000 in
set_option maxHeartbeats 4000000 in
theorem labels_any (a : Nat) (ha : a ≤ 4294967295) (w : World) (htab : PowTab w) :
    Calls Tryd.prog 14 #[.int .u32 (a : Int)] w fun e w' => ∃ A c, e = .returned (.slice A 6 c) ∧ Sl w' 1 (.slice A 6 c) 6 (strs (labsA a)) ∧ 6 ≤ c ∧ c ≤ maxLen ∧ Below w.heap.size w w' := by
  obtain ⟨i0, hi0, hz0, hz1, hz2⟩ := info_parts info_str
  have HN := Lib.hid (numbers_any a ha w htab)
  clear htab
  go_enter Tryd.func14, Tryd.ntmps14
  go_wp2_with (fail)
  refine HN.out.mono ?_
  rintro e w1 ⟨A, c, rfl, hsl, hown, hb⟩
  have HS := Lib.hid hsl
  have HO := Lib.hid hown
  have HB := Lib.hid hb
  clear hsl hown hb HN
  go_wp2_with (fail)
  refine (rev_strs A c (numsA a 4) w1 4 (numsA_length a 4) HS.out (by decide)).mono ?_
  rintro e w2 ⟨rfl, hsl, hk⟩
  have HS2 := Lib.hid hsl
  have HB2 : Below w.heap.size w w2 := HB.out.trans (hk.below fun i hi => ⟨Nat.lt_of_lt_of_le hi HB.out.size, fun e => Nat.lt_irrefl _ (Nat.lt_of_lt_of_le hi (HO.out i e))⟩)
  clear hsl hk HS
  go_wp2_with (at_builtin; refine wpList_append_sl _ rfl (.tmp 8) (.tmp 9) 36 36 rfl 9 i0 (.string ⟨#[]⟩) 1 16 Tryd.underlying36 hi0 hz0 hz1 hz2 rfl (.slice A 4 c) 4 (strs (numsA a 4).reverse) rfl (HS2.out.alloc _) _ rfl 2 [.string ⟨#[105, 110, 45, 97, 100, 100, 114]⟩, .string ⟨#[97, 114, 112, 97]⟩] (src_two1 Tryd.underlying36 w2 _ _ _ rfl rfl) (by unfold maxLen; omega) (by omega) ?_; intro v' w3 hs' hg' hv')
  have hb3 : Below w.heap.size w w3 := (HB2.alloc HB2.size _).grown hg' (by have := HB2.size; simp; omega) HO.out
  obtain ⟨A', c', rfl, h6, hc⟩ := hs'.shape
  go_ret
  exact ⟨A', c', rfl, hs', h6, hc, hb3⟩

theorem tt_drop {w : World} {g : Nat} {ls : List Bs} (hg : g < w.heap.size) (h : ∀ (j : Nat) (u : Value), (strs ls)[j]? = some u → w.cell? ⟨g, j, none⟩ = some u) (k : Nat) : TTab w (some ⟨g, k, none⟩) (strs (ls.drop k)) :=
  fun _ => ⟨g, k, rfl, hg, fun j u hu => h (k + j) u (by rw [← hu]; simp [strs])⟩
/-- The reverse name of an address. -/
def nameA (a : Nat) : Bs := (joinP [0] (labsA a)).1
/-- The name of the zone of its k highest numbers, as Join answers it. -/
def zoneA (a k : Nat) : Bs × Int := joinP [0] ((labsA a).drop (4 - k))
set_option maxRecDepth 100000 in
set_option maxHeartbeats 4000000 in
theorem reverseA_any (a : Nat) (ha : a ≤ 4294967295) (w : World) (htab : PowTab w) :
    Calls Tryd.prog 5 #[.int .u32 (a : Int)] w fun e w' => e = .returned (.string ⟨(nameA a).toArray⟩) ∧ Below w.heap.size w w' := by
  have HL := Lib.hid (labels_any a ha w htab)
  have HJ := Lib.hid (fun A c W => Join_any n0 (by decide) A c (labsA a) W)
  clear htab
  go_enter Tryd.func5, Tryd.ntmps5
  go_wp2_with (fail)
  refine HL.out.mono ?_
  rintro e w1 ⟨A, c, rfl, hsl, h6, hc, hb⟩
  have HS := Lib.hid hsl
  have HB := Lib.hid hb
  clear hsl hb HL
  go_wp2_with (fail)
  have hj := HJ.out A c w1 (by rw [← labsA_length a] at HS; have := HS.out; rw [← strs_len (labsA a)] at this; exact ttab_of_sl this) (by rw [labsA_length]; decide)
  rw [labsA_length] at hj
  refine Calls.mono hj ?_
  rintro e w2 ⟨rfl, hb2⟩
  have HB2 := Lib.hid (HB.out.trans (hb2.mono HB.out.size))
  clear hb2
  go_wp2_with (fail)
  go_ret
  exact ⟨rfl, HB2.out⟩

theorem zone_join (a k : Nat) (hk : k ≤ 4) (g : Nat) (W : World) (hT : TTab W (some ⟨g, 4 - k, none⟩) (strs ((labsA a).drop (4 - k)))) :
    Calls Tryd.prog 13 #[.string n0, .slice (some ⟨g, 4 - k, none⟩) (2 + k) (2 + k)] W fun e w' => e = .returned (.tuple #[.string ⟨(zoneA a k).1.toArray⟩, .int .i64 (zoneA a k).2]) ∧ Below W.heap.size W w' := by
  have h := Join_any n0 (by decide) (some ⟨g, 4 - k, none⟩) (2 + k) ((labsA a).drop (4 - k)) W hT (by rw [List.length_drop, labsA_length]; omega)
  rw [show ((labsA a).drop (4 - k)).length = 2 + k by rw [List.length_drop, labsA_length]; omega] at h
  exact h
set_option maxRecDepth 100000 in
set_option maxHeartbeats 4000000 in
theorem zone_any (a : Nat) (ha : a ≤ 4294967295) (k : Nat) (hk : k ≤ 4) (w : World) (htab : PowTab w) :
    Calls Tryd.prog 8 #[.int .u32 (a : Int), .int .i64 ((8 * k : Nat) : Int)] w fun e w' => e = .returned (.tuple #[.string ⟨(zoneA a k).1.toArray⟩, .int .i64 (zoneA a k).2]) ∧ Below w.heap.size w w' := by
  have HL := Lib.hid (labels_any a ha w htab)
  have HJ := Lib.hid (zone_join a k hk)
  clear htab
  rcases (show k = 0 ∨ k = 1 ∨ k = 2 ∨ k = 3 ∨ k = 4 by omega) with rfl | rfl | rfl | rfl | rfl
  all_goals
    go_enter Tryd.func8, Tryd.ntmps8
    go_wp2_with (fail)
    refine HL.out.mono ?_
    rintro e w1 ⟨A, c, rfl, hsl, h6, hc, hb⟩
    have HS := Lib.hid hsl
    have HB := Lib.hid hb
    clear hsl hb HL
    obtain ⟨g, cap, hv, hg, _, _, hcell⟩ := HS.out.form (by decide)
    injection hv with hA _ hcap
    subst hA hcap
    have hcI : (6 : Int) ≤ (c : Int) := by omega
    unfold maxLen at hc
    have hcI2 : (c : Int) ≤ 9223372036854775807 := by omega
    go_wp2_with (fail)
    refine (HJ.out g w1 (tt_drop hg hcell _)).mono ?_
    rintro e w2 ⟨rfl, hb2⟩
    have HB2 := Lib.hid (HB.out.trans (hb2.mono HB.out.size))
    clear hb2
    go_wp2_with (fail)
    go_ret2
    exact ⟨rfl, HB2.out⟩
end Go.Proofs.YtenmhfhnhfhooaaDoor
