/- The law MinimMore, walked. -/
import Derived.Test.YtjhhhkhcnohmiaaMinimL
namespace Go.Proofs.Ytjhhhkhcnohmiaa
open Go.RowKit Go.Lib

/-- The box that the law makes, as it lies in W. -/
def SM (w : World) (q : Qn) (W : World) : Prop := Blk W w.heap.size 39 #[.string q.n, .int .u16 q.t, .int .u16 q.c] ∧ Below w.heap.size w W
theorem SM.start (w : World) (q : Qn) : SM w q (w.alloc (.cells #[.string q.n, .int .u16 q.t, .int .u16 q.c] 39)) := ⟨Blk.new w _ _, (Below.refl _ _).alloc (Nat.le_refl _) _⟩
theorem SM.next {w W W' : World} {q : Qn} (h : SM w q W) (hb : Below W.heap.size W W') : SM w q W' := ⟨h.1.below hb h.1.lt, h.2.trans (hb.mono h.2.size)⟩

set_option maxRecDepth 100000 in
set_option maxHeartbeats 4000000 in
theorem minimMore_no (q : Qn) (z : ByteArray) (hq : q.n.size ≤ maxLen) (hz : z.size ≤ maxLen) (hw : withinB q.n.data.toList z.data.toList = false) (w : World) :
    Calls Try.prog 5 #[.agg #[.string q.n, .int .u16 q.t, .int .u16 q.c], .string z] w fun e w' => e = .returned (.bool true) ∧ Below w.heap.size w w' := by
  have S0 := Lib.hid (SM.start w q)
  have hS := fun W => Steps_any q z hq hz W
  have hD := fun W => Depth_any q.n z hq hz W
  rw [(steps_no hw).1] at hS
  rw [depth_no hw] at hD
  have HS : RowKit.Hid (∀ W, Calls Try.prog 29 #[.agg #[.string q.n, .int .u16 q.t, .int .u16 q.c], .string z] W fun e w' => ∃ A c, e = .returned (.slice A 0 c) ∧ Sl w' 3 (.slice A 0 c) 0 (flatQ []) ∧ Below W.heap.size W w') := hS
  have HD := Lib.hid hD
  clear hS hD hw hq hz
  go_enter Try.func5, Try.ntmps5
  go_wp2_with (fail)
  with_reducible refine (lives43 _).mono ?_
  rintro e w1 ⟨rfl, hb⟩
  have S1 := Lib.hid (S0.out.next hb)
  have c0 := S1.out.1.cell 0
  have c1 := S1.out.1.cell 1
  have c2 := S1.out.1.cell 2
  clear hb
  go_wp2_with (fail)
  with_reducible refine (HS.out _).mono ?_
  rintro e w2 ⟨A, c, rfl, _, hb⟩
  have S2 := Lib.hid (S1.out.next hb)
  clear c0 c1 c2
  have c0 := S2.out.1.cell 0
  have c1 := S2.out.1.cell 1
  have c2 := S2.out.1.cell 2
  clear hb
  go_wp2_with (fail)
  with_reducible refine (HD.out _).mono ?_
  rintro e w3 ⟨rfl, hb⟩
  have S3 := Lib.hid (S2.out.next hb)
  clear hb c0 c1 c2
  go_wp2_with (fail)
  go_ret
  exact ⟨rfl, S3.out.2⟩

set_option maxRecDepth 100000 in
set_option maxHeartbeats 4000000 in
theorem minimMore_yes (q : Qn) (z : ByteArray) (hq : q.n.size ≤ maxLen) (hz : z.size ≤ maxLen) (hw : withinB q.n.data.toList z.data.toList = true) (w : World) :
    Calls Try.prog 5 #[.agg #[.string q.n, .int .u16 q.t, .int .u16 q.c], .string z] w fun e w' => e = .returned (.bool true) ∧ Below w.heap.size w w' := by
  have S0 := Lib.hid (SM.start w q)
  have hS := fun W => Steps_any q z hq hz W
  have hD := fun W => Depth_any q.n z hq hz W
  obtain ⟨d, hd⟩ : ∃ d : Nat, depthN q.n.data.toList z.data.toList = (d : Int) := ⟨(depthN q.n.data.toList z.data.toList).toNat, by have := (depth_yes hw).2; omega⟩
  have hlen := steps_len hw
  have hshort := steps_short q z
  rw [hd] at hD hlen
  obtain ⟨N, hN⟩ : ∃ N, (stepsL q z).length = N + 1 := ⟨_, hlen⟩
  have hNd : N = d - 1 := by simp at hlen; omega
  have HP := Lib.hid (And.intro hw (And.intro hd (And.intro hN (And.intro hq hz))))
  rw [hN] at hS
  have HS := Lib.hid hS
  have HD := Lib.hid hD
  have hNs : N ≤ 255 := by omega
  have HNd := Lib.hid hNd
  clear hNd
  clear hS hD hw hq hz hlen hshort hd hN
  go_enter Try.func5, Try.ntmps5
  go_wp2_with (fail)
  with_reducible refine (lives43 _).mono ?_
  rintro e w1 ⟨rfl, hb⟩
  have S1 := Lib.hid (S0.out.next hb)
  have c0 := S1.out.1.cell 0
  have c1 := S1.out.1.cell 1
  have c2 := S1.out.1.cell 2
  clear hb
  go_wp2_with (fail)
  with_reducible refine (HS.out _).mono ?_
  rintro e w2 ⟨A, c, rfl, hsl, hb⟩
  have S2 := Lib.hid (S1.out.next hb)
  have hsl2 : Sl w2 3 (.slice A (stepsL q z).length c) (stepsL q z).length (flatQ (stepsL q z)) := by rw [HP.out.2.2.1]; exact hsl
  have T2 := Lib.hid (qtab_of_sl hsl2)
  have hc : N + 1 ≤ c := by
    obtain ⟨A', c', e1, e2, _⟩ := hsl.shape
    injection e1 with _ _ e3
    omega
  clear c0 c1 c2 hsl hsl2
  have c0 := S2.out.1.cell 0
  have c1 := S2.out.1.cell 1
  have c2 := S2.out.1.cell 2
  go_wp2_with (fail)
  with_reducible refine (HD.out _).mono ?_
  rintro e w3 ⟨rfl, hb3⟩
  have S3 := Lib.hid (S2.out.next hb3)
  have T3 := Lib.hid (T2.out.below hb3)
  clear hb hb3 c0 c1 c2
  obtain ⟨a, hA, hal, hac⟩ := T3.out (by rw [HP.out.2.2.1]; omega)
  subst hA
  have hlast := steps_end HP.out.1 (k := N) (by rw [HP.out.2.2.1])
  have a0 : w3.cell? ⟨a, N * 3, none⟩ = some (.string q.n) := hac N q hlast 0 _ rfl
  have a1 : w3.cell? ⟨a, N * 3 + 1, none⟩ = some (.int .u16 q.t) := hac N q hlast 1 _ rfl
  have a2 : w3.cell? ⟨a, N * 3 + 2, none⟩ = some (.int .u16 q.c) := hac N q hlast 2 _ rfl
  have c0 : w3.cell? ⟨w.heap.size, 0, none⟩ = some (.string q.n) := S3.out.1.cell 0
  have c1 : w3.cell? ⟨w.heap.size, 1, none⟩ = some (.int .u16 q.t) := S3.out.1.cell 1
  have c2 : w3.cell? ⟨w.heap.size, 2, none⟩ = some (.int .u16 q.c) := S3.out.1.cell 2
  have hnq := neq_q q.n q.t q.c
  have hdn : ¬ ((d : Int) < 0) := by omega
  have HT := Lib.hid (And.intro hal hac)
  clear hal hac hlast
  go_wp2_with (fail)
  have hif : (if (1 : Int) > (d : Int) then (1 : Int) else (d : Int)) = (N : Int) + 1 := by have := HNd.out; split <;> omega
  have hif2 : (if (d : Int) < 1 then (1 : Int) else (d : Int)) = (N : Int) + 1 := by have := HNd.out; split <;> omega
  have e1 : IntKind.i64.wrap ((N : Int) + 1 - 1) = (N : Int) := by rw [Int.add_sub_cancel]; exact IntWalk.i64_in _ (by omega)
  have e2 : (N : Int) < (N : Int) + 1 := by omega
  have hNI : (N : Int) ≤ 255 := by omega
  go_quiet (fail)
  obtain ⟨V, hV⟩ : ∃ V, w3.drewN nq = V := ⟨_, rfl⟩
  have SV := Lib.hid (show SM w q V by rw [← hV]; exact ⟨S3.out.1.drewN _, below_drewN S3.out.2 _⟩)
  have TV := Lib.hid (show a < V.heap.size ∧ ∀ (j : Nat) (e : Qn), (stepsL q z)[j]? = some e → ∀ i v, e.vs[i]? = some v → V.cell? ⟨a, j * 3 + i, none⟩ = some v by rw [← hV]; exact HT.out)
  rw [hV]
  clear hV a0 a1 a2 c0 c1 c2 hnq hif hif2
  go_wp2_with (fail)
  go_loopg [44] N (fun g v44 wr => ∃ k : Nat, g + k = N ∧ v44 = .int .i64 (k : Int) ∧ Aside (SM w q wr) ∧ Aside (Below V.heap.size V wr))
  case atStart => exact ⟨0, by omega, rfl, SV.out, Below.refl _ _⟩
  case round =>
    obtain ⟨k, hg, rfl, hS, hB⟩ := hrel
    by_cases hlt : k < N
    · obtain ⟨x, y, hxk, _, hx1, hx2, hx3, _, _, hdx, hwx, hdq⟩ := steps_mem HP.out.1 (k := k) (by rw [HP.out.2.2.1]; omega)
      obtain ⟨xn, xt, xc⟩ := x
      dsimp only at hx1 hx2 hx3 hdx hwx hdq
      subst hx2 hx3
      have hxs : xn.size ≤ maxLen := by rw [hx1]; exact Nat.le_trans (above_size _ _) HP.out.2.2.2.1
      have a0 : wr.cell? ⟨a, k * 3, none⟩ = some (.string xn) := (hB.out.cell (p := ⟨a, k * 3, none⟩) TV.out.1).trans (TV.out.2 k _ hxk 0 _ rfl)
      have a1 : wr.cell? ⟨a, k * 3 + 1, none⟩ = some (.int .u16 2) := (hB.out.cell (p := ⟨a, k * 3 + 1, none⟩) TV.out.1).trans (TV.out.2 k _ hxk 1 _ rfl)
      have a2 : wr.cell? ⟨a, k * 3 + 2, none⟩ = some (.int .u16 q.c) := (hB.out.cell (p := ⟨a, k * 3 + 2, none⟩) TV.out.1).trans (TV.out.2 k _ hxk 2 _ rfl)
      have hDx := fun W => Depth_any xn z hxs HP.out.2.2.2.2 W
      have hWx := fun W => Within_any q.n xn HP.out.2.2.2.1 hxs W
      have hTx := fun W => mTells_any ⟨xn, 2, q.c⟩ q hxs HP.out.2.2.2.1 W
      rw [hdx] at hDx
      rw [hwx] at hWx
      rw [show depthN q.n.data.toList (⟨xn, 2, q.c⟩ : Qn).n.data.toList = (d : Int) - (k : Int) - 1 by rw [← HP.out.2.1]; exact hdq] at hTx
      have HDx := Lib.hid hDx
      have HWx := Lib.hid hWx
      have HTx : RowKit.Hid (∀ W, Calls Try.prog 30 #[.agg #[.string xn, .int .u16 2, .int .u16 q.c], .agg #[.string q.n, .int .u16 q.t, .int .u16 q.c]] W fun e w' => e = .returned (.int .i64 ((d : Int) - (k : Int) - 1)) ∧ Below W.heap.size W w') := hTx
      have hkN : (k : Int) < (N : Int) := by omega
      have hkd : (k : Int) + 1 < (d : Int) := by have := HNd.out; omega
      have hdI : (d : Int) ≤ 256 := by have := HNd.out; omega
      have R0 := Lib.hid (Blk.new wr 39 #[.string xn, .int .u16 2, .int .u16 q.c])
      have S0 := Lib.hid (hS.out.next ((Below.refl _ _).alloc (Nat.le_refl _) (.cells #[.string xn, .int .u16 2, .int .u16 q.c] 39)))
      have B0 := Lib.hid (hB.out.alloc hB.out.size (.cells #[.string xn, .int .u16 2, .int .u16 q.c] 39))
      have hl0 := hS.out.1.lt
      clear hDx hWx hTx hx1 hdx hwx hdq hxs hxk
      go_wp2_with (fail)
      with_reducible refine (HDx.out _).mono ?_
      rintro e v1 ⟨rfl, hb⟩
      have R1 := Lib.hid (R0.out.below hb R0.out.lt)
      have Z1 := Lib.hid (S0.out.next hb)
      have B1 := Lib.hid (B0.out.trans (hb.mono B0.out.size))
      have r0 := R1.out.cell 0
      have r1 := R1.out.cell 1
      have r2 := R1.out.cell 2
      have c0 := Z1.out.1.cell 0
      have c1 := Z1.out.1.cell 1
      have c2 := Z1.out.1.cell 2
      clear hb
      go_wp2_with (fail)
      with_reducible refine (HWx.out _).mono ?_
      rintro e v2 ⟨rfl, hb⟩
      have R2 := Lib.hid (R1.out.below hb R1.out.lt)
      have Z2 := Lib.hid (Z1.out.next hb)
      have B2 := Lib.hid (B1.out.trans (hb.mono B1.out.size))
      clear hb r0 r1 r2 c0 c1 c2
      have r0 := R2.out.cell 0
      have r1 := R2.out.cell 1
      have r2 := R2.out.cell 2
      have c0 := Z2.out.1.cell 0
      have c1 := Z2.out.1.cell 1
      have c2 := Z2.out.1.cell 2
      go_wp2_with (fail)
      with_reducible refine (HTx.out _).mono ?_
      rintro e v3 ⟨rfl, hb⟩
      have R3 := Lib.hid (R2.out.below hb R2.out.lt)
      have Z3 := Lib.hid (Z2.out.next hb)
      have B3 := Lib.hid (B2.out.trans (hb.mono B2.out.size))
      clear hb r0 r1 r2 c0 c1 c2
      have r0 := R3.out.cell 0
      have r1 := R3.out.cell 1
      have r2 := R3.out.cell 2
      have c0 := Z3.out.1.cell 0
      have c1 := Z3.out.1.cell 1
      have c2 := Z3.out.1.cell 2
      go_wp2_with (fail)
      go_roundg (N - (k + 1))
      case measure => omega
      case rel => exact ⟨k + 1, by omega, by go_num, Z3.out, B3.out⟩
    · obtain rfl : k = N := by omega
      go_wp2_with (fail)
      go_ret
      exact ⟨rfl, hS.out.2⟩

theorem minimMore_law (w : World) (n : ByteArray) (t c : Int) (z : ByteArray) (hq : n.size ≤ maxLen) (hz : z.size ≤ maxLen) :
    Calls Try.prog 5 #[.agg #[.string n, .int .u16 t, .int .u16 c], .string z] w fun e w' => e = .returned (.bool true) ∧ Below w.heap.size w w' := by
  obtain ⟨q, rfl, rfl, rfl⟩ : ∃ q : Qn, n = q.n ∧ t = q.t ∧ c = q.c := ⟨⟨n, t, c⟩, rfl, rfl, rfl⟩
  cases hw : withinB q.n.data.toList z.data.toList with
  | false => exact minimMore_no q z hq hz hw w
  | true => exact minimMore_yes q z hq hz hw w
end Go.Proofs.Ytjhhhkhcnohmiaa
