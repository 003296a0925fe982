/- The walks of slices.stableCmpFunc and slices.SortStableFunc at fewer than 20 places. -/
import Derived.Test.YtjhhhkhcnohmiaaInsert
namespace Go.Proofs.Ytjhhhkhcnohmiaa
open Go.RowKit Go.Lib

/-- What a stable sort leaves. -/
def StabPost (g c : Nat) (P : List Pl) (w : World) (e : Ending) (w' : World) : Prop :=
  e = .returned (.tuple #[]) ∧ ∃ P', SrtK Pl.L cmpL P' ∧ StS Pl.L P' P ∧ Sl w' 2 (.slice (some ⟨g, 0, none⟩) P.length c) P.length (plC P') ∧ KeepK (fun i => i < w.heap.size ∧ i ≠ g) w w'
/-- The sort does what it must at up to m places. -/
def StableOk (m : Nat) : Prop := ∀ (g c : Nat) (P : List Pl) (w : World), Sl w 2 (.slice (some ⟨g, 0, none⟩) P.length c) P.length (plC P) → PlOk w g P → P.length ≤ m →
  Calls Try.prog 86 #[.slice (some ⟨g, 0, none⟩) P.length c, .int .i64 (P.length : Int), .func (.func 69) #[] #[]] w (StabPost g c P w)

set_option maxRecDepth 100000 in
set_option maxHeartbeats 2000000 in
theorem stable_few : StableOk 19 := by
  intro g c P w hS hP hn
  have h1 := insSort_any g c 0 P.length [] P [] w (by simpa using hS) (by simpa using hP) (by simp; omega) rfl (by simp)
  simp only [List.nil_append, List.append_nil] at h1
  have hnI : (P.length : Int) ≤ 19 := by omega
  have hn0 : ¬ 20 ≤ (P.length : Int) := by omega
  have hn1 : ¬ 20 < (P.length : Int) := by omega
  have H1 := Lib.hid h1
  clear h1 hS hP
  go_enter Try.func86, Try.ntmps86
  go_wp2_with (fail)
  go_loopg [7, 8] 0 (fun _ v7 v8 wr => v7 = .int .i64 0 ∧ v8 = .int .i64 20 ∧ wr = w)
  case atStart => exact ⟨rfl, rfl, rfl⟩
  case round =>
    obtain ⟨rfl, rfl, rfl⟩ := hrel
    go_wp2_with (fail)
    refine H1.out.mono ?_
    rintro e w1 ⟨rfl, P', hp1, hp2, hp3, hp4⟩
    simp only [List.nil_append, List.append_nil] at hp3
    have hl := hp2.len
    rw [hl] at hp3
    have HP := Lib.hid (And.intro hp1 (And.intro hp2 (And.intro hp3 hp4)))
    clear hp1 hp2 hp3 hp4 hl
    go_wp2_with (fail)
    go_loopg [6, 7, 8, 9] 0 (fun _ v6 _ _ _ wr => v6 = .int .i64 20 ∧ wr = w1)
    case atStart => exact ⟨rfl, rfl⟩
    case round =>
      obtain ⟨rfl, rfl⟩ := hrel
      go_wp2_with (fail)
      refine bodyPost_end (results_none rfl _ _ _) rfl ?_
      exact ⟨rfl, P', HP.out.1, HP.out.2.1, HP.out.2.2.1, HP.out.2.2.2⟩

set_option maxRecDepth 100000 in
theorem sortStable_any {m : Nat} (hm : StableOk m) (g c : Nat) (P : List Pl) (w : World) (hS : Sl w 2 (.slice (some ⟨g, 0, none⟩) P.length c) P.length (plC P)) (hP : PlOk w g P) (hn : P.length ≤ m) (hb : P.length ≤ 1000000) :
    Calls Try.prog 68 #[.slice (some ⟨g, 0, none⟩) P.length c, .func (.func 69) #[] #[]] w (StabPost g c P w) := by
  have H := Lib.hid (hm g c P w hS hP hn)
  have hnI : (P.length : Int) ≤ 1000000 := by omega
  clear hS hP hn hb hm
  go_enter Try.func68, Try.ntmps68
  go_wp2_with (fail)
  refine H.out.mono ?_
  rintro e w1 ⟨rfl, P', hp1, hp2, hp3, hp4⟩
  have HP := Lib.hid (And.intro hp1 (And.intro hp2 (And.intro hp3 hp4)))
  clear hp1 hp2 hp3 hp4
  go_wp2_with (fail)
  refine bodyPost_end (results_none rfl _ _ _) rfl ?_
  exact ⟨rfl, P', HP.out.1, HP.out.2.1, HP.out.2.2.1, HP.out.2.2.2⟩
end Go.Proofs.Ytjhhhkhcnohmiaa
