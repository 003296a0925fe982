/- The walk of hardtacklaw09.lives. -/
import Derived.Test.YtcphcgkbjlgkiaaKeyedSame
namespace Go.Proofs.Ytcphcgkbjlgkiaa
open Go.RowKit Go.Lib

def kK : ByteArray := ⟨#[48, 49, 50, 51, 52, 53, 54, 55, 56, 57, 97, 98, 99, 100, 101, 102]⟩
def tA : ByteArray := ⟨#[97]⟩
def tB : ByteArray := ⟨#[98]⟩
def t0 : ByteArray := ⟨#[]⟩
def eA : Entry := ⟨kK, tA, 7⟩
def eB : Entry := ⟨kK, tB, 7⟩
def eZ : Entry := ⟨t0, t0, 0⟩
theorem is_data (key text : ByteArray) (e : Entry) : Entry.is key text e = (e.key.data.toList == key.data.toList && e.text.data.toList == text.data.toList) := by
  unfold Entry.is; simp only [ByteArray.toList_eq]
theorem isA1 : Entry.is kK tA eA = true := by rw [is_data]; decide
theorem isA2 : Entry.is kK tB eA = false := by rw [is_data]; decide
theorem isA3 : Entry.is kK tB eB = true := by rw [is_data]; decide
theorem sumE_A : sumE kK.data.toList tA.data.toList = 0 := by decide
theorem sumE_B : sumE kK.data.toList tB.data.toList = 0 := by decide
theorem sumE_0 : sumE t0.data.toList tA.data.toList = 2 := by decide
theorem putE1 : putE [] kK tA = 0 := by unfold putE; rw [sumE_A]; rfl
theorem putE2 : putE [eA] kK tA = 4 := by unfold putE; rw [sumE_A]; simp [isA1]
theorem putE3 : putE [eA] kK tB = 0 := by unfold putE; rw [sumE_B]; simp [isA2]
theorem ofN1 : ofN true [eA] kK tA = 7 := by unfold ofN; rw [sumE_A]; simp [findN, isA1]; rfl
theorem ofN2 : ofN true [eA] kK tB = 0 := by unfold ofN; rw [sumE_B]; simp [findN, isA2]
theorem ofN3 : ofN false [eA] kK tA = sumN kK.data.toList tA.data.toList := by unfold ofN; rw [if_neg (by simp)]
theorem okA : eA.ok := by unfold Entry.ok; decide
theorem okB' : eB.ok := by unfold Entry.ok; decide
theorem okZ : eZ.ok := by unfold Entry.ok; decide
theorem sndA : SndTo [eA] 1 := by
  intro j e hj he
  obtain rfl : j = 0 := by omega
  obtain rfl : eA = e := by simpa using he
  exact ⟨rfl, fun i f hi => absurd hi (by omega)⟩
theorem sndG : SndTo [eA, eB] 2 := by
  intro j e hj he
  match j, hj, he with
  | 0, _, he =>
    obtain rfl : eA = e := by simpa using he
    exact ⟨rfl, fun i f hi => absurd hi (by omega)⟩
  | 1, _, he =>
    obtain rfl : eB = e := by simpa using he
    refine ⟨rfl, fun i f hi hf => ?_⟩
    obtain rfl : i = 0 := by omega
    obtain rfl : eA = f := by simpa using hf
    exact isA2
theorem apA {v : Bool} (h : ApIs [eA] v) : v = true := by
  rcases h with ⟨h, _⟩ | ⟨_, h⟩
  · exact h
  · refine absurd ⟨⟨by decide, sndA⟩, fun j e hj he => ?_⟩ h
    obtain rfl : j = 0 := by simp at hj; omega
    obtain rfl : eA = e := by simpa using he
    exact ⟨by decide, fun i f hi => absurd hi (by omega)⟩
theorem apG {v : Bool} (h : ApIs [eA, eB] v) : v = false := by
  rcases h with ⟨_, h⟩ | ⟨h, _⟩
  · exact absurd rfl ((h.2 1 eB (by decide) rfl).2 0 eA (by decide) rfl)
  · exact h
theorem chkG {v : Int} (h : ChkIs [eA, eB] v) : v = 0 := by
  rcases h with ⟨h, _⟩ | ⟨_, h⟩
  · exact h
  · exact absurd ⟨by decide, sndG⟩ h
theorem chkZ {v : Int} (h : ChkIs [eZ] v) : v = 2 := by
  rcases h with ⟨_, _, h⟩ | ⟨h, _⟩
  · exact absurd (h 0 eZ (by decide) rfl).1 (by decide)
  · exact h

def PutGives (xs : List Entry) (n : Nat) (w : World) (e : Ending) (w' : World) : Prop := ∃ A c, e = .returned (.tuple #[.agg #[.bool true, .slice A n c], .int .i64 0]) ∧ Tab w' A xs ∧ Below w.heap.size w w'
theorem putGives {xs ys : List Entry} {k s : ByteArray} {n : Int} {w w' : World} {e : Ending} (h : PutPost xs k s n w e w') (hE : putE xs k s = 0) (hy : xs ++ [⟨k, s, n⟩] = ys) : PutGives ys ys.length w e w' := by
  obtain ⟨A, c, he, hT, hc, hb⟩ := h
  have hL : putL xs k s n = ys := by unfold putL; rw [if_pos hE, hy]
  rw [hL] at he hT hc
  rw [hE] at he
  exact ⟨A, c, he, hT, hb⟩
theorem L1 (w : World) : Calls Try.prog 16 #[.agg #[.bool false, .slice none 0 0], .string kK, .string tA, .int .u64 7] w (PutGives [eA] 1 w) :=
  (put_any false [] none 0 kK tA 7 w (tab_nil _ _) (by decide) (by decide) (by decide) ⟨by decide, by decide⟩).mono fun _ _ h => putGives h putE1 rfl
theorem L2 (A : Option Addr) (c : Nat) (w : World) (h : Tab w A [eA]) : Calls Try.prog 17 #[.agg #[.bool true, .slice A 1 c], .string kK, .string tA] w fun e w' => e = .returned (.tuple #[.int .u64 7, .int .i64 0]) ∧ Below w.heap.size w w' := by
  have := of_hash true [eA] A c kK tA w h (by decide) (by decide) (by decide)
  rw [ofN1, sumE_A] at this
  exact this
theorem L3 (A : Option Addr) (c : Nat) (w : World) (h : Tab w A [eA]) : Calls Try.prog 17 #[.agg #[.bool true, .slice A 1 c], .string kK, .string tB] w fun e w' => e = .returned (.tuple #[.int .u64 0, .int .i64 0]) ∧ Below w.heap.size w w' := by
  have := of_hash true [eA] A c kK tB w h (by decide) (by decide) (by decide)
  rw [ofN2, sumE_B] at this
  exact this
theorem L4 (A : Option Addr) (c : Nat) (w : World) (h : Tab w A [eA]) : Calls Try.prog 17 #[.agg #[.bool false, .slice A 1 c], .string kK, .string tA] w fun e w' => e = .returned (.tuple #[.int .u64 (sumN kK.data.toList tA.data.toList), .int .i64 0]) ∧ Below w.heap.size w w' := by
  have := of_hash false [eA] A c kK tA w h (by decide) (by decide) (by decide)
  rw [ofN3, sumE_A] at this
  exact this
theorem L5 (w : World) : Calls Try.prog 15 #[.string kK, .string tA] w fun e w' => e = .returned (.tuple #[.int .u64 (sumN kK.data.toList tA.data.toList), .int .i64 0]) ∧ Below w.heap.size w w' := by
  have := Sum_any kK tA (by decide) (by decide) w
  rw [sumE_A] at this
  exact this
theorem L6 (A : Option Addr) (c : Nat) (w : World) (h : Tab w A [eA]) : Calls Try.prog 16 #[.agg #[.bool true, .slice A 1 c], .string kK, .string tA, .int .u64 8] w fun e w' => (∃ v c, e = .returned (.tuple #[.agg #[.bool false, .slice v 0 c], .int .i64 4])) ∧ Below w.heap.size w w' :=
  (put_any true [eA] A c kK tA 8 w h (by decide) (by decide) (by decide) ⟨by decide, by decide⟩).mono fun _ _ h => by
    obtain ⟨A, c, he, hT, hc, hb⟩ := h
    have hL : putL [eA] kK tA 8 = [] := by unfold putL; rw [if_neg (by rw [putE2]; decide)]
    rw [hL, putE2] at he
    exact ⟨⟨A, c, he⟩, hb⟩
theorem L7 (A : Option Addr) (c : Nat) (w : World) (h : Tab w A [eA]) : Calls Try.prog 17 #[.agg #[.bool true, .slice A 1 c], .string t0, .string tA] w fun e w' => (∃ x, e = .returned (.tuple #[.int .u64 x, .int .i64 2])) ∧ Below w.heap.size w w' := by
  have := of_hash true [eA] A c t0 tA w h (by decide) (by decide) (by decide)
  rw [sumE_0] at this
  exact this.mono fun _ _ h => ⟨⟨_, h.1⟩, h.2⟩
theorem L8 (A : Option Addr) (c : Nat) (w : World) (h : Tab w A [eA]) : Calls Try.prog 16 #[.agg #[.bool true, .slice A 1 c], .string kK, .string tB, .int .u64 7] w (PutGives [eA, eB] 2 w) :=
  (put_any true [eA] A c kK tB 7 w h (by decide) (by decide) (by decide) ⟨by decide, by decide⟩).mono fun _ _ h => putGives h putE3 rfl
theorem L9 (A : Option Addr) (c : Nat) (w : World) (h : Tab w A [eA]) : Calls Try.prog 30 #[.agg #[.bool true, .slice A 1 c]] w fun e w' => e = .returned (.bool true) ∧ Below w.heap.size w w' :=
  (apart_any true [eA] A c w h (by decide)).mono fun _ _ ⟨v, hv, he, hb⟩ => ⟨by rw [he, apA hv], hb⟩
theorem L10 (A : Option Addr) (c : Nat) (w : World) (h : Tab w A [eA, eB]) : Calls Try.prog 30 #[.agg #[.bool true, .slice A 2 c]] w fun e w' => e = .returned (.bool false) ∧ Below w.heap.size w w' :=
  (apart_any true [eA, eB] A c w h (by decide)).mono fun _ _ ⟨v, hv, he, hb⟩ => ⟨by rw [he, apG hv], hb⟩
theorem L11 (A : Option Addr) (c : Nat) (w : World) (h : Tab w A [eA, eB]) : Calls Try.prog 18 #[.agg #[.bool true, .slice A 2 c], .string kK, .string tB] w fun e w' => e = .returned (.bool true) ∧ Below w.heap.size w w' := by
  have := known_any true [eA, eB] A c kK tB w h (by decide)
  rw [show [eA, eB].any (Entry.is kK tB) = true by simp [isA2, isA3]] at this
  exact this
theorem L12 (A : Option Addr) (c : Nat) (w : World) (h : Tab w A [eA, eB]) : Calls Try.prog 19 #[.agg #[.bool true, .slice A 2 c]] w fun e w' => e = .returned (.int .i64 0) ∧ Below w.heap.size w w' :=
  (check_any true [eA, eB] A c w h (by decide)).mono fun _ _ ⟨v, hv, he, hb⟩ => ⟨by rw [he, chkG hv], hb⟩
theorem L13 (A : Option Addr) (c : Nat) (w : World) (h : Tab w A [eZ]) : Calls Try.prog 19 #[.agg #[.bool false, .slice A 1 c]] w fun e w' => e = .returned (.int .i64 2) ∧ Below w.heap.size w w' :=
  (check_any false [eZ] A c w h (by decide)).mono fun _ _ ⟨v, hv, he, hb⟩ => ⟨by rw [he, chkZ hv], hb⟩

/-- Where lives stands: the table, the box of the hash, nothing below turned. -/
def St (w : World) (g : Nat) (A : Option Addr) (n c : Nat) (xs : List Entry) (W : World) : Prop := Tab W A xs ∧ Below w.heap.size w W ∧ Blk W g 27 #[.bool true, .slice A n c]
theorem St.next {w W W' : World} {g : Nat} {A : Option Addr} {n c : Nat} {xs : List Entry} (h : St w g A n c xs W) (hb : Below W.heap.size W W') : St w g A n c xs W' :=
  ⟨h.1.below hb, h.2.1.trans (hb.mono h.2.1.size), h.2.2.below hb h.2.2.lt⟩
theorem St.alloc {w W : World} {g : Nat} {A : Option Addr} {n c : Nat} {xs : List Entry} (h : St w g A n c xs W) (o : Obj) : St w g A n c xs (W.alloc o) := h.next ((Below.refl _ _).alloc (Nat.le_refl _) _)
theorem St.start {w W : World} {A : Option Addr} {n c : Nat} {xs : List Entry} (hT : Tab W A xs) (hb : Below w.heap.size w W) : St w W.heap.size A n c xs (W.alloc (.cells #[.bool true, .slice A n c] 27)) :=
  ⟨hT.below ((Below.refl _ _).alloc (Nat.le_refl _) _), hb.alloc hb.size _, Blk.new W _ _⟩

end Go.Proofs.Ytcphcgkbjlgkiaa
