/- The walks of package pack's Reader's Left, Part, and of Name by a bad reader. Conditions: none. -/
import Derived.Test.YtgfpnkakglgokaaWriteSet
namespace Go.Proofs.Ytgfpnkakglgokaa
open Go.RowKit Go.Lib

set_option maxRecDepth 100000 in
theorem rName_bad {w : World} {b : Nat} {s : ByteArray} {at' : Nat} (h : Rd w b s at' true) : Calls Try.prog 34 #[.pointer (some ⟨b, 0, none⟩)] w fun e w' => e = .returned (.string ⟨#[]⟩) ∧ w = w' := by
  have H := Lib.hid (rBad_any h)
  clear h
  go_enter Try.func34, Try.ntmps34
  go_wp2_with (fail)
  go_step3
  go_wp2_with (fail)
  with_reducible refine H.out.mono ?_
  rintro e w' ⟨rfl, rfl⟩
  go_wp2_with (fail)
  try rw [Exit.noGoto_ret]
  go_ret
  exact ⟨rfl, rfl⟩
theorem rLeft_bad {w : World} {b : Nat} {s : ByteArray} {at' : Nat} (h : Rd w b s at' true) : Calls Try.prog 37 #[.pointer (some ⟨b, 0, none⟩)] w fun e w' => e = .returned (.int .i64 0) ∧ w = w' := by
  have H := Lib.hid (rBad_any h)
  clear h
  go_enter Try.func37, Try.ntmps37
  go_wp2_with (fail)
  with_reducible refine H.out.mono ?_
  rintro e w' ⟨rfl, rfl⟩
  go_wp2_with (fail)
  go_ret
  exact ⟨rfl, rfl⟩
set_option maxRecDepth 100000 in
theorem rLeft_any {w : World} {b : Nat} {s : ByteArray} {at' : Nat} (h : Rd w b s at' false) (hs : s.size ≤ 140737488355328) (ha : at' ≤ s.size) :
    Calls Try.prog 37 #[.pointer (some ⟨b, 0, none⟩)] w fun e w' => e = .returned (.int .i64 ((s.size - at' : Nat) : Int)) ∧ ∃ k, w' = w.drewN k := by
  have H := Lib.hid (rBad_any h)
  have c0 : w.cell? ⟨b, 0, none⟩ = some (.string s) := Blk.cell h 0
  have c1 : w.cell? ⟨b, 1, none⟩ = some (.int .i64 (at' : Int)) := Blk.cell h 1
  have e1 : IntKind.i64.wrap ((s.size : Int) - (at' : Int)) = ((s.size - at' : Nat) : Int) := by rw [IntWalk.i64_in _ (by omega)]; omega
  clear h hs ha
  go_enter Try.func37, Try.ntmps37
  go_wp2_with (fail)
  with_reducible refine H.out.mono ?_
  rintro e w' ⟨rfl, rfl⟩
  go_wp2_with (fail)
  go_quiet (fail)
  go_wp2_with (fail)
  go_ret
  exact ⟨rfl, _, rfl⟩

def PartPost (b : Nat) (s : ByteArray) (at' n : Nat) (w : World) (e : Ending) (w' : World) : Prop :=
  ∃ (g : Nat) (S : ByteArray), e = .returned (.pointer (some ⟨g, 0, none⟩)) ∧ S.data.toList = s.data.toList.take (at' + n) ∧ Rd w' g S at' false ∧ Rd w' b s (at' + n) false ∧ But b w w' ∧ w.heap.size ≤ g
set_option maxRecDepth 100000 in
set_option maxHeartbeats 1000000 in
theorem rPart_yes {w : World} {b : Nat} {s : ByteArray} {at' : Nat} (h : Rd w b s at' false) (n : Nat) (hs : s.size ≤ 140737488355328) (hn : at' + n ≤ s.size) :
    Calls Try.prog 69 #[.pointer (some ⟨b, 0, none⟩), .int .i64 (n : Int)] w (PartPost b s at' n w) := by
  have HA := Lib.hid (rAt_any h)
  have HR := Lib.hid (rRaw_yes h n (by unfold maxLen; omega) hn)
  obtain ⟨p, hp⟩ : ∃ p, at' + n = p := ⟨_, rfl⟩
  have hps : p ≤ s.size := by omega
  obtain ⟨S, hS⟩ : ∃ S, s.extract 0 p = S := ⟨_, rfl⟩
  have hsl : ∀ W : World, (Instr.slice 9 (.string s) none (some (.int .i64 (p : Int))) none).run Try.prog W = .ok (.string S) W := fun W => by
    have := run_slice_string_h (P := Try.prog) (w := W) (t := 9) (s := s) Try.underlying9 .i64 (p : Int) (by omega) (by omega)
    rw [this, ← hS]
    congr 3
  have hSl : S.data.toList = s.data.toList.take p := by rw [← hS]; simp
  rw [hp] at HR
  have HE := Lib.hid (And.intro hSl hp)
  have hbl := Blk.lt h
  clear hp hps hS hSl hs hn h
  go_enter Try.func69, Try.ntmps69
  go_wp2_with (fail)
  with_reducible refine HA.out.mono ?_
  rintro e w' ⟨rfl, rfl⟩
  go_wp2_with (fail)
  with_reducible refine HR.out.mono ?_
  rintro e w1 ⟨rfl, hr1, hbt⟩
  have HB := Lib.hid (rBad_any hr1)
  have c0 : w1.cell? ⟨b, 0, none⟩ = some (.string s) := Blk.cell hr1 0
  have c1 : w1.cell? ⟨b, 1, none⟩ = some (.int .i64 (p : Int)) := Blk.cell hr1 1
  have H1 := Lib.hid (And.intro hr1 hbt)
  have hb1 := Blk.lt hr1
  clear hr1 hbt
  go_wp2_with (fail)
  with_reducible refine HB.out.mono ?_
  rintro e w2 ⟨rfl, rfl⟩
  go_wp2_with (fail)
  go_region_held3 (fun w' => w'.cell? ⟨b, 0, none⟩ = some (.string s) ∧ w'.cell? ⟨b, 1, none⟩ = some (.int .i64 (p : Int))) (first | assumption | exact ⟨c0, c1⟩ | exact ⟨(World.cell?_alloc_lt _ _ _ hb1).trans c0, (World.cell?_alloc_lt _ _ _ hb1).trans c1⟩) (fail)
  go_wp2_with (fail)
  go_ret
  unfold PartPost
  rw [HE.out.2]
  have hN := Blk.new w1.drew 134 #[.string S, .int .i64 (at' : Int), .bool false]
  exact ⟨w1.heap.size, S, rfl, HE.out.1, hN, Blk.alloc (Blk.drew H1.out.1) _, (show KeepK _ _ _ from (KeepK.drew H1.out.2).alloc (fun i hi => Nat.lt_of_lt_of_le hi.1 H1.out.2.size) _), H1.out.2.size⟩
end Go.Proofs.Ytgfpnkakglgokaa
