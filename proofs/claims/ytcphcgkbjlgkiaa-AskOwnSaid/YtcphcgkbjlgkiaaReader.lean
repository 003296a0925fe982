/- The walks of package pack's Reader: Open, Bad, fail, Raw, Num, At. -/
import Derived.Test.YtcphcgkbjlgkiaaSl
import Derived.Test.YtcphcgkbjlgkiaaWriterN
namespace Go.Proofs.Ytcphcgkbjlgkiaa
open Go.RowKit

/-- A reader at block b: its bytes, its place, whether it is bad. -/
def Rd (w : World) (b : Nat) (s : ByteArray) (at' : Nat) (bad : Bool) : Prop := Blk w b 151 #[.string s, .int .i64 (at' : Int), .bool bad]
/-- All but the block b is as it was. -/
def But (b : Nat) (w w' : World) : Prop := KeepK (fun i => i < w.heap.size ∧ i ≠ b) w w'
theorem But.refl (b : Nat) (w : World) : But b w w := KeepK.refl _ _
theorem But.trans {b : Nat} {u v w : World} (h : But b u v) (k : But b v w) : But b u w :=
  KeepK.trans h (KeepK.mono k fun i hi => ⟨Nat.lt_of_lt_of_le hi.1 h.size, hi.2⟩)
theorem But.of_below {b : Nat} {u v : World} (h : Below u.heap.size u v) : But b u v := KeepK.of_below h fun _ hi => hi.1
theorem But.below {b B : Nat} {u v : World} (h : But b u v) (hb : B ≤ b) (hB : B ≤ u.heap.size) : Below B u v := KeepK.below h fun i hi => ⟨by omega, by omega⟩
theorem But.blk {b g : Nat} {u v : World} {t : TypeId} {cs : Array Value} (h : But b u v) (hB : Blk u g t cs) (hg : g ≠ b) : Blk v g t cs := hB.keepK h ⟨hB.lt, hg⟩

theorem rOpen_any (s : ByteArray) (w : World) : Calls Try.prog 67 #[.string s] w fun e w' => e = .returned (.pointer (some ⟨w.heap.size, 0, none⟩)) ∧ Rd w' w.heap.size s 0 false ∧ Below w.heap.size w w' := by
  go_enter Try.func67, Try.ntmps67
  go_wp2
  go_ret
  exact ⟨rfl, Blk.new w _ _, (Below.refl _ _).alloc (Nat.le_refl _) _⟩
theorem rBad_any {w : World} {b : Nat} {s : ByteArray} {at' : Nat} {bad : Bool} (h : Rd w b s at' bad) : Calls Try.prog 96 #[.pointer (some ⟨b, 0, none⟩)] w fun e w' => e = .returned (.bool bad) ∧ w = w' := by
  have c2 : w.cell? ⟨b, 2, none⟩ = some (.bool bad) := Blk.cell h 2
  clear h
  go_enter Try.func96, Try.ntmps96
  go_wp2
  go_ret
  exact ⟨rfl, rfl⟩
theorem rfail_any {w : World} {b : Nat} {s : ByteArray} {at' : Nat} {bad : Bool} (h : Rd w b s at' bad) : Calls Try.prog 94 #[.pointer (some ⟨b, 0, none⟩)] w fun e w' => e = .returned (.tuple #[]) ∧ Rd w' b s at' true ∧ But b w w' := by
  have c2 : w.cell? ⟨b, 2, none⟩ = some (.bool bad) := Blk.cell h 2
  have f2 := Blk.frozen h 2
  have H := Lib.hid h
  clear h
  go_enter Try.func94, Try.ntmps94
  go_wp2
  refine bodyPost_end (results_none rfl _ _ _) rfl ?_
  exact ⟨rfl, Blk.set_ H.out 2 _, (KeepK.refl _ _).setCell (fun i hi => hi.2) _⟩
theorem rRaw_bad {w : World} {b : Nat} {s : ByteArray} {at' : Nat} (h : Rd w b s at' true) (n : Int) : Calls Try.prog 95 #[.pointer (some ⟨b, 0, none⟩), .int .i64 n] w fun e w' => e = .returned (.string ⟨#[]⟩) ∧ w = w' := by
  have H := Lib.hid (rBad_any h)
  clear h
  go_enter Try.func95, Try.ntmps95
  go_wp2_with (fail)
  refine H.out.mono ?_
  rintro e w' ⟨rfl, rfl⟩
  go_wp2_with (fail)
  go_ret
  exact ⟨rfl, rfl⟩

set_option maxRecDepth 100000 in
set_option maxHeartbeats 1000000 in
theorem rRaw_no {w : World} {b : Nat} {s : ByteArray} {at' : Nat} (h : Rd w b s at' false) (n : Int) (hs : s.size ≤ maxLen) (ha : at' ≤ s.size) (hn : n < 0 ∨ (s.size : Int) - at' < n) :
    Calls Try.prog 95 #[.pointer (some ⟨b, 0, none⟩), .int .i64 n] w fun e w' => e = .returned (.string ⟨#[]⟩) ∧ Rd w' b s at' true ∧ But b w w' := by
  have H := Lib.hid (rBad_any h)
  have HF := Lib.hid (fun k => rfail_any (w := w.drewN k) (h : Rd (w.drewN k) b s at' false))
  have c0 : w.cell? ⟨b, 0, none⟩ = some (.string s) := Blk.cell h 0
  have c1 : w.cell? ⟨b, 1, none⟩ = some (.int .i64 (at' : Int)) := Blk.cell h 1
  unfold maxLen at hs
  have e1 : IntKind.i64.wrap ((s.size : Int) - (at' : Int)) = (s.size : Int) - (at' : Int) := IntWalk.i64_in _ (by omega)
  have hd : decide (n < 0) = true ∨ (decide (n < 0) = false ∧ decide ((s.size : Int) - (at' : Int) < n) = true) := by
    by_cases h0 : n < 0
    · left; simp [h0]
    · right; simp; omega
  clear h hs ha hn
  rcases hd with d1 | ⟨d1, d2⟩
  all_goals
    go_enter Try.func95, Try.ntmps95
    go_wp2_with (fail)
    refine H.out.mono ?_
    rintro e w' ⟨rfl, rfl⟩
    go_wp2_with (fail)
    go_quiet (fail)
    go_wp2_with (fail)
    refine (HF.out _).mono ?_
    rintro e w1 ⟨rfl, h1, h2⟩
    have H1 := Lib.hid (And.intro h1 h2)
    clear h1 h2
    go_wp2_with (fail)
    go_ret
    exact ⟨rfl, H1.out.1, ((But.refl b w).drewN _).trans H1.out.2⟩

set_option maxRecDepth 100000 in
set_option maxHeartbeats 1000000 in
theorem rRaw_yes {w : World} {b : Nat} {s : ByteArray} {at' : Nat} (h : Rd w b s at' false) (n : Nat) (hs : s.size ≤ maxLen) (hn : at' + n ≤ s.size) :
    Calls Try.prog 95 #[.pointer (some ⟨b, 0, none⟩), .int .i64 (n : Int)] w fun e w' => e = .returned (.string (s.extract at' (at' + n))) ∧ Rd w' b s (at' + n) false ∧ But b w w' := by
  have H := Lib.hid (rBad_any h)
  have H0 := Lib.hid h
  have c0 : w.cell? ⟨b, 0, none⟩ = some (.string s) := Blk.cell h 0
  have c1 : w.cell? ⟨b, 1, none⟩ = some (.int .i64 (at' : Int)) := Blk.cell h 1
  have f1 := Blk.frozen h 1
  unfold maxLen at hs
  have e1 : IntKind.i64.wrap ((s.size : Int) - (at' : Int)) = (s.size : Int) - (at' : Int) := IntWalk.i64_in _ (by omega)
  have d1 : decide ((n : Int) < 0) = false := by simp
  have d2 : decide ((s.size : Int) - (at' : Int) < (n : Int)) = false := by simp; omega
  have b1 : (at' : Int) + (n : Int) ≤ 9223372036854775807 := by omega
  have HN := Lib.hid hn
  clear h hs hn
  go_enter Try.func95, Try.ntmps95
  go_wp2_with (fail)
  refine H.out.mono ?_
  rintro e w' ⟨rfl, rfl⟩
  go_wp2_with (fail)
  go_quiet (fail)
  go_wp2_with (fail)
  obtain ⟨p, hp⟩ : ∃ p : Nat, at' + n = p := ⟨_, rfl⟩
  have hpi : (at' : Int) + (n : Int) = (p : Int) := by omega
  rw [hpi]
  have hR : Rd ((w.drewN nq).setCell ⟨b, 1, none⟩ (.int .i64 (p : Int))) b s p false := Blk.set_ (Blk.drewN H0.out nq) 1 _
  have hBt : But b w ((w.drewN nq).setCell ⟨b, 1, none⟩ (.int .i64 (p : Int))) := ((KeepK.refl _ w).drewN nq).setCell (fun i hi => hi.2) _
  generalize (w.drewN nq).setCell ⟨b, 1, none⟩ (.int .i64 (p : Int)) = V at hR hBt ⊢
  have k0 : V.cell? ⟨b, 0, none⟩ = some (.string s) := Blk.cell hR 0
  have k1 : V.cell? ⟨b, 1, none⟩ = some (.int .i64 (p : Int)) := Blk.cell hR 1
  have e2 : IntKind.i64.wrap ((p : Int) - (n : Int)) = (at' : Int) := by
    rw [← hpi, show (at' : Int) + n - n = at' by omega]; exact IntWalk.i64_in _ (by omega)
  have hn' := HN.out
  have g1 : (at' : Int) ≤ (p : Int) := by omega
  have g2 : (p : Int) ≤ (s.size : Int) := by omega
  have HR := Lib.hid (And.intro hR (And.intro hBt hp))
  clear hpi hp hn' c0 c1 f1 e1 d1 d2 b1 hR hBt
  go_quiet (fail)
  go_wp2_with (fail)
  go_ret
  obtain ⟨hR, hBt, hp⟩ := HR.out
  rw [hp]
  exact ⟨rfl, hR, hBt.drewN _⟩
end Go.Proofs.Ytcphcgkbjlgkiaa
