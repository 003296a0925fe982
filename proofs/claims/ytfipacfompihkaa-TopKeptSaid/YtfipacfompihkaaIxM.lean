/- Rows of numbers that stand for texts: the comparison of sets.build, and its keys. Conditions: none. -/
import Derived.Test.YtfipacfompihkaaSetsM
import Derived.Test.YtfipacfompihkaaCaC
import Derived.Test.YtfipacfompihkaaStab
import Derived.Test.YtfipacfompihkaaQLow
import Derived.Test.YtfipacfompihkaaRes
namespace Go.Proofs.Ytfipacfompihkaa
open Go.RowKit Go.Lib Go.Shelf

theorem cmpB_eq : ∀ a b : Bs, Lib.compareBytes a b = cmpS a b
  | [], [] => by simp [Lib.compareBytes, cmpS, ltS, Op.bytesLess]
  | [], _ :: _ => by simp [Lib.compareBytes, cmpS, ltS, Op.bytesLess]
  | _ :: _, [] => by simp [Lib.compareBytes, cmpS, ltS, Op.bytesLess]
  | a :: t, b :: u => by
    have ih := cmpB_eq t u
    unfold cmpS at ih ⊢
    simp only [ltS, Op.bytesLess] at ih ⊢
    unfold Lib.compareBytes
    by_cases h1 : a < b
    · simp [h1]
    · by_cases h2 : b < a
      · have h3 : a ≠ b := fun e => by subst e; exact h1 h2
        simp [h1, h2, h3]
      · have h3 : a = b := UInt8.le_antisymm (UInt8.not_lt.1 h2) (UInt8.not_lt.1 h1)
        subst h3
        simp [h1, ih]
def ixC (P : List Nat) : List Value := P.map fun i : Nat => .int .i64 (i : Int)
theorem ixC_append (a b : List Nat) : ixC (a ++ b) = ixC a ++ ixC b := by simp [ixC]
theorem ixC_at {P : List Nat} {j x : Nat} (h : P[j]? = some x) : (ixC P)[j]? = some (.int .i64 (x : Int)) := by unfold ixC; rw [List.getElem?_map, h]; rfl
theorem ixC_set (P : List Nat) (i x : Nat) : ixC (P.set i x) = (ixC P).set i (.int .i64 (x : Int)) := by unfold ixC; rw [List.map_set]
theorem ixC_len (P : List Nat) : (ixC P).length = P.length := by simp [ixC]
/-- What a number stands for. -/
def keyF (fs : List ByteArray) (i : Nat) : Bs := (fs.getD i ⟨#[]⟩).data.toList
structure KeyOk (w : World) (g Bf : Nat) (Af : Option Addr) (cf : Nat) (fs : List ByteArray) : Prop where
  bx : Blk w Bf 47 #[.slice Af fs.length cf]
  tb : STab w Af fs
  ne : Bf ≠ g
  na : ∀ a, Af = some a → a.block ≠ g
theorem KeyOk.keep {w w' : World} {g Bf : Nat} {Af : Option Addr} {cf : Nat} {fs : List ByteArray} (h : KeyOk w g Bf Af cf fs) (hk : KeepK (fun i => i < w.heap.size ∧ i ≠ g) w w') : KeyOk w' g Bf Af cf fs := by
  refine ⟨h.bx.keepK hk ⟨h.bx.lt, h.ne⟩, h.tb.keep hk.size fun hp a ha => hk.block a.block ⟨?_, h.na a ha⟩, h.ne, h.na⟩
  obtain ⟨b', off', hA', hlt', _⟩ := h.tb (by simpa using hp)
  rw [ha] at hA'
  injection hA' with hA'
  rw [hA']
  exact hlt'
theorem KeyOk.low {w w' : World} {g Bf : Nat} {Af : Option Addr} {cf : Nat} {fs : List ByteArray} (h : KeyOk w g Bf Af cf fs) (hb : Below w.heap.size w w') : KeyOk w' g Bf Af cf fs := h.keep (KeepK.of_below hb fun i hi => hi.1)
theorem key_at {fs : List ByteArray} {i : Nat} {x : ByteArray} (h : fs[i]? = some x) : keyF fs i = x.data.toList := by unfold keyF; rw [List.getD_eq_getElem?_getD, h]; rfl
theorem strCmp_any (a b : ByteArray) (w : World) : Calls Try.prog 89 #[.string a, .string b] w fun e w' => e = .returned (.int .i64 (cmpS a.data.toList b.data.toList)) ∧ Below w.heap.size w w' :=
  (Any.strings_Compare Try.cmpLays a b w).mono fun e w' ⟨h1, h2⟩ => ⟨by rw [h1, cmpB_eq], h2 ▸ Below.refl _ _⟩
set_option maxRecDepth 100000 in
set_option maxHeartbeats 4000000 in
theorem rise_any {w : World} {g Bf : Nat} {Af : Option Addr} {cf : Nat} {fs : List ByteArray} (h : KeyOk w g Bf Af cf fs) (hl : fs.length ≤ 1000000) (i j : Nat) (hi : i < fs.length) (hj : j < fs.length) :
    Calls Try.prog 88 #[.int .i64 (i : Int), .int .i64 (j : Int), .pointer (some ⟨Bf, 0, none⟩)] w fun e w' => e = .returned (.int .i64 (cmpS (keyF fs i) (keyF fs j))) ∧ Below w.heap.size w w' := by
  obtain ⟨x, hx⟩ : ∃ x, fs[i]? = some x := ⟨_, List.getElem?_eq_getElem hi⟩
  obtain ⟨y, hy⟩ : ∃ y, fs[j]? = some y := ⟨_, List.getElem?_eq_getElem hj⟩
  rw [key_at hx, key_at hy]
  obtain ⟨b, off, rfl, hbl, hcl⟩ := h.tb (by simpa using (show 0 < fs.length by omega))
  have cx := hcl i _ (by rw [List.getElem?_map, hx]; rfl)
  have cy := hcl j _ (by rw [List.getElem?_map, hy]; rfl)
  have b0 : ∀ p : BelowOf w, p.X.cell? ⟨Bf, 0, none⟩ = some (.slice (some ⟨b, off, none⟩) fs.length cf) := fun p => (h.bx.low p).cell 0
  have bx : ∀ p : BelowOf w, p.X.cell? ⟨b, off + i, none⟩ = some (.string x) := fun p => p.cell (a := ⟨b, off + i, none⟩) hbl cx
  have by_ : ∀ p : BelowOf w, p.X.cell? ⟨b, off + j, none⟩ = some (.string y) := fun p => p.cell (a := ⟨b, off + j, none⟩) hbl cy
  have HS := Lib.hid (fun W => strCmp_any x y W)
  have hiI : (i : Int) < (fs.length : Int) := by omega
  have hjI : (j : Int) < (fs.length : Int) := by omega
  have hlI : (fs.length : Int) ≤ 1000000 := by omega
  obtain ⟨z, hz⟩ : ∃ z, cmpS x.data.toList y.data.toList = z := ⟨_, rfl⟩
  rw [hz] at HS ⊢
  clear hx hy cx cy hcl hi hj h hz hl
  go_enter Try.func88, Try.ntmps88
  go_wp2_with (fail)
  refine wp_region_low (by kernel_rfl) (by kernel_rfl) ?_
  repeat (refine low_step (fun K hK => ?_); go_simp; first | (refine hK _ ?_; clear hK K) | (apply Exists.intro; refine ⟨fun _ => ?_, hK _ ?_⟩; (first | (go_at_call 89; exact calls_low (HS.out _))); clear hK K))
  refine low_nil ?_
  rintro ⟨W5, hb5⟩
  dsimp only
  clear b0 bx by_
  go_wp2_with (fail)
  go_ret
  exact ⟨rfl, hb5⟩
end Go.Proofs.Ytfipacfompihkaa
