/- The walk of Of, where one peer at most is known. Conditions: none. -/
import Derived.Test.YtfipacfompihkaaPeFG
namespace Go.Proofs.Ytfipacfompihkaa
open Go.RowKit Go.Lib

set_option maxRecDepth 100000 in
set_option maxHeartbeats 2000000 in
theorem of_none {w : World} {g mb : Nat} {u v : Value} (b : Int) (hbx : Blk w g 86 #[.int .i64 64, .map (some mb), u, v]) (hlk : ∀ W, Below w.heap.size w W → (Instr.lookup 83 (.map (some mb)) (.int .u32 b) false).run Try.prog W = .ok (.pointer none) W) :
    Calls Try.prog 12 #[.pointer (some ⟨g, 0, none⟩), .int .u32 b] w fun e w' => e = .returned (Pe.val ⟨b, 0, 0⟩) ∧ Below w.heap.size w w' := by
  go_enter Try.func12, Try.ntmps12
  obtain ⟨V, hV⟩ : ∃ V, w.alloc (.cells #[.int .u32 0, .string ⟨#[]⟩, .bool false, .int .i64 0, .int .i64 0] 35) = V := ⟨_, rfl⟩
  have HV := Lib.hid (show Below w.heap.size w V ∧ Blk V w.heap.size 35 #[.int .u32 0, .string ⟨#[]⟩, .bool false, .int .i64 0, .int .i64 0] from by
    rw [← hV]; exact ⟨(Below.refl _ _).alloc (Nat.le_refl _) _, Blk.new _ _ _⟩)
  have r0 := HV.out.2.cell 0; have r1 := HV.out.2.cell 1; have r2 := HV.out.2.cell 2; have r3 := HV.out.2.cell 3; have r4 := HV.out.2.cell 4
  have f0 := HV.out.2.frozen 0; have f1 := HV.out.2.frozen 1; have f2 := HV.out.2.frozen 2; have f3 := HV.out.2.frozen 3; have f4 := HV.out.2.frozen 4
  have g1 := (hbx.below HV.out.1 hbx.lt).cell 1
  have hl2 := hlk V HV.out.1
  clear hbx hlk
  go_wp2_with (fail)
  have hB : Blk (((((V.setCell ⟨w.heap.size, 0, none⟩ (.int .u32 b)).setCell ⟨w.heap.size, 1, none⟩ (.string ⟨#[]⟩)).setCell ⟨w.heap.size, 2, none⟩ (.bool false)).setCell ⟨w.heap.size, 3, none⟩ (.int .i64 0)).setCell ⟨w.heap.size, 4, none⟩ (.int .i64 0)) w.heap.size 35 #[.int .u32 b, .string ⟨#[]⟩, .bool false, .int .i64 0, .int .i64 0] := by simpa using (((((HV.out.2.set_ 0 (.int .u32 b)).set_ 1 (.string ⟨#[]⟩)).set_ 2 (.bool false)).set_ 3 (.int .i64 0)).set_ 4 (.int .i64 0))
  have hb3 : Below w.heap.size w (((((V.setCell ⟨w.heap.size, 0, none⟩ (.int .u32 b)).setCell ⟨w.heap.size, 1, none⟩ (.string ⟨#[]⟩)).setCell ⟨w.heap.size, 2, none⟩ (.bool false)).setCell ⟨w.heap.size, 3, none⟩ (.int .i64 0)).setCell ⟨w.heap.size, 4, none⟩ (.int .i64 0)) := (((((HV.out.1.setCell (p := ⟨w.heap.size, 0, none⟩) (Nat.le_refl _) (.int .u32 b)).setCell (p := ⟨w.heap.size, 1, none⟩) (Nat.le_refl _) (.string ⟨#[]⟩)).setCell (p := ⟨w.heap.size, 2, none⟩) (Nat.le_refl _) (.bool false)).setCell (p := ⟨w.heap.size, 3, none⟩) (Nat.le_refl _) (.int .i64 0)).setCell (p := ⟨w.heap.size, 4, none⟩) (Nat.le_refl _) (.int .i64 0))
  clear r0 r1 r2 r3 r4 f0 f1 f2 f3 f4
  obtain ⟨W3, hW3⟩ : ∃ W3, (((((V.setCell ⟨w.heap.size, 0, none⟩ (.int .u32 b)).setCell ⟨w.heap.size, 1, none⟩ (.string ⟨#[]⟩)).setCell ⟨w.heap.size, 2, none⟩ (.bool false)).setCell ⟨w.heap.size, 3, none⟩ (.int .i64 0)).setCell ⟨w.heap.size, 4, none⟩ (.int .i64 0)) = W3 := ⟨_, rfl⟩
  rw [hW3] at hB hb3 ⊢
  have r0 := hB.cell 0; have r1 := hB.cell 1; have r2 := hB.cell 2; have r3 := hB.cell 3; have r4 := hB.cell 4
  exact bodyPost_ret (v := .agg #[.int .u32 b, .string ⟨#[]⟩, .bool false, .int .i64 0, .int .i64 0]) (by simp [results, Try.results12, go_sem, r0, r1, r2, r3, r4]) rfl ⟨rfl, hb3⟩

set_option maxRecDepth 100000 in
set_option maxHeartbeats 2000000 in
theorem of_some {w : World} {g mb nb : Nat} {u v : Value} {a f r : Int} (b : Int) (hbx : Blk w g 86 #[.int .i64 64, .map (some mb), u, v]) (hno : NodeB w nb a f r none none) (hlk : ∀ W, Below w.heap.size w W → (Instr.lookup 83 (.map (some mb)) (.int .u32 b) false).run Try.prog W = .ok (.pointer (some ⟨nb, 0, none⟩)) W) :
    Calls Try.prog 12 #[.pointer (some ⟨g, 0, none⟩), .int .u32 b] w fun e w' => e = .returned (Pe.val ⟨a, f, r⟩) ∧ Below w.heap.size w w' := by
  go_enter Try.func12, Try.ntmps12
  obtain ⟨V, hV⟩ : ∃ V, w.alloc (.cells #[.int .u32 0, .string ⟨#[]⟩, .bool false, .int .i64 0, .int .i64 0] 35) = V := ⟨_, rfl⟩
  have HV := Lib.hid (show Below w.heap.size w V ∧ Blk V w.heap.size 35 #[.int .u32 0, .string ⟨#[]⟩, .bool false, .int .i64 0, .int .i64 0] from by
    rw [← hV]; exact ⟨(Below.refl _ _).alloc (Nat.le_refl _) _, Blk.new _ _ _⟩)
  have r0 := HV.out.2.cell 0; have r1 := HV.out.2.cell 1; have r2 := HV.out.2.cell 2; have r3 := HV.out.2.cell 3; have r4 := HV.out.2.cell 4
  have f0 := HV.out.2.frozen 0; have f1 := HV.out.2.frozen 1; have f2 := HV.out.2.frozen 2; have f3 := HV.out.2.frozen 3; have f4 := HV.out.2.frozen 4
  have g1 := (hbx.below HV.out.1 hbx.lt).cell 1
  have hl2 := hlk V HV.out.1
  have hn2 := Blk.below hno HV.out.1 hno.lt
  have n0 := hn2.cell 0; have n1 := hn2.cell 1; have n2 := hn2.cell 2; have n3 := hn2.cell 3; have n4 := hn2.cell 4
  have hnl : nb < w.heap.size := hno.lt
  have hnl2 : nb ≠ w.heap.size := by omega
  clear hbx hlk hno hn2
  go_wp2_with (fail)
  clear n0 n1 n2 n3 n4
  have hB : Blk (((((V.setCell ⟨w.heap.size, 0, none⟩ (.int .u32 a)).setCell ⟨w.heap.size, 1, none⟩ (.string ⟨#[]⟩)).setCell ⟨w.heap.size, 2, none⟩ (.bool false)).setCell ⟨w.heap.size, 3, none⟩ (.int .i64 f)).setCell ⟨w.heap.size, 4, none⟩ (.int .i64 r)) w.heap.size 35 #[.int .u32 a, .string ⟨#[]⟩, .bool false, .int .i64 f, .int .i64 r] := by simpa using (((((HV.out.2.set_ 0 (.int .u32 a)).set_ 1 (.string ⟨#[]⟩)).set_ 2 (.bool false)).set_ 3 (.int .i64 f)).set_ 4 (.int .i64 r))
  have hb3 : Below w.heap.size w (((((V.setCell ⟨w.heap.size, 0, none⟩ (.int .u32 a)).setCell ⟨w.heap.size, 1, none⟩ (.string ⟨#[]⟩)).setCell ⟨w.heap.size, 2, none⟩ (.bool false)).setCell ⟨w.heap.size, 3, none⟩ (.int .i64 f)).setCell ⟨w.heap.size, 4, none⟩ (.int .i64 r)) := (((((HV.out.1.setCell (p := ⟨w.heap.size, 0, none⟩) (Nat.le_refl _) (.int .u32 a)).setCell (p := ⟨w.heap.size, 1, none⟩) (Nat.le_refl _) (.string ⟨#[]⟩)).setCell (p := ⟨w.heap.size, 2, none⟩) (Nat.le_refl _) (.bool false)).setCell (p := ⟨w.heap.size, 3, none⟩) (Nat.le_refl _) (.int .i64 f)).setCell (p := ⟨w.heap.size, 4, none⟩) (Nat.le_refl _) (.int .i64 r))
  clear r0 r1 r2 r3 r4 f0 f1 f2 f3 f4
  obtain ⟨W3, hW3⟩ : ∃ W3, (((((V.setCell ⟨w.heap.size, 0, none⟩ (.int .u32 a)).setCell ⟨w.heap.size, 1, none⟩ (.string ⟨#[]⟩)).setCell ⟨w.heap.size, 2, none⟩ (.bool false)).setCell ⟨w.heap.size, 3, none⟩ (.int .i64 f)).setCell ⟨w.heap.size, 4, none⟩ (.int .i64 r)) = W3 := ⟨_, rfl⟩
  rw [hW3] at hB hb3 ⊢
  have r0 := hB.cell 0; have r1 := hB.cell 1; have r2 := hB.cell 2; have r3 := hB.cell 3; have r4 := hB.cell 4
  exact bodyPost_ret (v := .agg #[.int .u32 a, .string ⟨#[]⟩, .bool false, .int .i64 f, .int .i64 r]) (by simp [results, Try.results12, go_sem, r0, r1, r2, r3, r4]) rfl ⟨rfl, hb3⟩

end Go.Proofs.Ytfipacfompihkaa
