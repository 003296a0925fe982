/- The walks of scrub.Stays and hardtackref20.Stays. Conditions: none. -/
import Derived.Test.YthjkdpphbipgfaaRecCheck
import Derived.Test.YthjkdpphbipgfaaWithin
import Derived.Test.YthjkdpphbipgfaaRefWithin
namespace Go.Proofs.Ythjkdpphbipgfaa
open Go.RowKit Go.Lib

theorem codeR_cases (r : RRec) : (chkR r = true ∧ codeR r = 0) ∨ (chkR r = false ∧ codeR r = 2) := by
  cases h : chkR r with
  | true => exact .inl ⟨rfl, codeR_yes h⟩
  | false => exact .inr ⟨rfl, codeR_no h⟩

set_option maxRecDepth 100000 in
set_option maxHeartbeats 4000000 in
theorem stays_any (r : RRec) (z : ByteArray) (hn : r.n.size ≤ maxLen) (hd : r.d.size ≤ 140737488355328) (hz : z.size ≤ maxLen) (w : World) :
    Calls Try.prog 16 #[r.val, .string z] w fun e w' => e = .returned (.bool (staysB z.data.toList r)) ∧ Below w.heap.size w w' := by
  have HC := Lib.hid (fun W => recCheck_any r hn hd W)
  have HW := Lib.hid (fun W => Within_any r.n z hn hz W)
  have HN := Lib.hid (codeR_cases r)
  have HX := Lib.hid (show staysB z.data.toList r = (chkR r && (decide (r.c = 1) && (!decide (r.t = 41) && withinB r.n.data.toList z.data.toList))) from rfl)
  obtain ⟨n, t, c, l, d⟩ := r
  clear hn hd hz
  generalize staysB z.data.toList ⟨n, t, c, l, d⟩ = st at HX ⊢
  generalize chkR ⟨n, t, c, l, d⟩ = ck at HN HX
  generalize codeR ⟨n, t, c, l, d⟩ = co at HN HC
  change RowKit.Hid (∀ W, Calls _ _ #[.agg #[.string n, .int .u16 t, .int .u16 c, .int .u32 l, .string d]] _ _) at HC
  change RowKit.Hid (_ = (ck && (decide (c = 1) && (!decide (t = 41) && _)))) at HX
  obtain ⟨wi, hwi⟩ : ∃ wi, withinB n.data.toList z.data.toList = wi := ⟨_, rfl⟩
  have HW2 := Lib.hid (fun W => hwi ▸ HW.out W)
  rw [hwi] at HX
  clear HW hwi
  change Calls _ _ #[.agg #[.string n, .int .u16 t, .int .u16 c, .int .u32 l, .string d], .string z] _ _
  have HB := Lib.hid (fun g : Below w.heap.size w (w.alloc (.cells #[.string n, .int .u16 t, .int .u16 c, .int .u32 l, .string d] 30)) => g)
  by_cases hc : c = 1
  case neg =>
    have h4 := Lib.hid (show st = false from by rw [HX.out]; simp [hc])
    have q : (c == 1) = false := by simp [hc]
    clear HX HN HC HW2 HB
    go_enter Try.func16, Try.ntmps16
    go_wp2_with (fail)
    go_ret
    exact ⟨by rw [h4.out] <;> rfl, (Below.refl _ _).alloc (Nat.le_refl _) _⟩
  subst hc
  by_cases ht : t = 41
  case pos =>
    subst ht
    have h4 := Lib.hid (show st = false from by rw [HX.out]; simp)
    clear HX HN HC HW2 HB
    go_enter Try.func16, Try.ntmps16
    go_wp2_with (fail)
    go_ret
    exact ⟨by rw [h4.out] <;> rfl, (Below.refl _ _).alloc (Nat.le_refl _) _⟩
  have q1 : (t == 41) = false := by simp [ht]
  have q2 : (t != 41) = true := by simp [ht]
  have HX2 := Lib.hid (show st = (ck && wi) from by rw [HX.out]; simp [ht])
  clear HX HB
  go_enter Try.func16, Try.ntmps16
  go_wp2_with (fail)
  obtain ⟨W1, hW1⟩ : ∃ W1, w.alloc (.cells #[.string n, .int .u16 t, .int .u16 1, .int .u32 l, .string d] 30) = W1 := ⟨_, rfl⟩
  have B1 := Lib.hid (show Below w.heap.size w W1 from by rw [← hW1]; exact (Below.refl _ _).alloc (Nat.le_refl _) _)
  have X1 := Lib.hid (show Blk W1 w.heap.size 30 #[.string n, .int .u16 t, .int .u16 1, .int .u32 l, .string d] from by rw [← hW1]; exact Blk.new _ _ _)
  rw [hW1]
  clear hW1
  refine (HW2.out _).mono ?_
  rintro e w2 ⟨rfl, hb⟩
  have B2 := Lib.hid (B1.out.trans (hb.mono B1.out.size))
  have X2 := Lib.hid (X1.out.below hb X1.out.lt)
  clear hb
  cases wi with
  | false =>
    have h4 := Lib.hid (show st = false from by rw [HX2.out]; simp)
    clear HX2 HN HC HW2
    go_wp2_with (fail)
    go_ret
    exact ⟨by rw [h4.out] <;> rfl, B2.out⟩
  | true =>
    have HX3 := Lib.hid (show st = ck from by rw [HX2.out]; simp)
    clear HX2 HW2
    have x0 := X2.out.cell 0
    have x1 := X2.out.cell 1
    have x2 := X2.out.cell 2
    have x3 := X2.out.cell 3
    have x4 := X2.out.cell 4
    go_wp2_with (fail)
    refine (HC.out _).mono ?_
    rintro e w3 ⟨rfl, hb⟩
    have B3 := Lib.hid (B2.out.trans (hb.mono B2.out.size))
    clear hb x0 x1 x2 x3 x4
    rcases HN.out with ⟨h1, h2⟩ | ⟨h1, h2⟩
    all_goals
      rw [h2]
      have h4 := Lib.hid (HX3.out.trans h1)
      clear h1 h2 HX3
      go_wp2_with (fail)
      go_ret
      exact ⟨by rw [h4.out] <;> rfl, B3.out⟩

set_option maxRecDepth 100000 in
set_option maxHeartbeats 4000000 in
theorem rStays_any (r : RRec) (z : ByteArray) (hn : r.n.size ≤ maxLen) (hd : r.d.size ≤ 1000000) (hz : z.size ≤ maxLen) (w : World) :
    Calls Try.prog 17 #[r.val, .string z] w fun e w' => e = .returned (.bool (staysB z.data.toList r)) ∧ Below w.heap.size w w' := by
  have HC := Lib.hid (fun W => rCheck5_any r hn hd W)
  have HW := Lib.hid (fun W => rWithin_any r.n z hn hz W)
  have HN := Lib.hid (codeR_cases r)
  have HX := Lib.hid (show staysB z.data.toList r = (chkR r && (decide (r.c = 1) && (!decide (r.t = 41) && withinB r.n.data.toList z.data.toList))) from rfl)
  obtain ⟨n, t, c, l, d⟩ := r
  clear hn hd hz
  generalize staysB z.data.toList ⟨n, t, c, l, d⟩ = st at HX ⊢
  generalize chkR ⟨n, t, c, l, d⟩ = ck at HN HX
  generalize codeR ⟨n, t, c, l, d⟩ = co at HN HC
  change RowKit.Hid (∀ W, Calls _ _ #[.agg #[.string n, .int .u16 t, .int .u16 c, .int .u32 l, .string d]] _ _) at HC
  change RowKit.Hid (_ = (ck && (decide (c = 1) && (!decide (t = 41) && _)))) at HX
  obtain ⟨wi, hwi⟩ : ∃ wi, withinB n.data.toList z.data.toList = wi := ⟨_, rfl⟩
  have HW2 := Lib.hid (fun W => hwi ▸ HW.out W)
  rw [hwi] at HX
  clear HW hwi
  change Calls _ _ #[.agg #[.string n, .int .u16 t, .int .u16 c, .int .u32 l, .string d], .string z] _ _
  go_enter Try.func17, Try.ntmps17
  go_wp2_with (fail)
  obtain ⟨W1, hW1⟩ : ∃ W1, w.alloc (.cells #[.string n, .int .u16 t, .int .u16 c, .int .u32 l, .string d] 30) = W1 := ⟨_, rfl⟩
  have B1 := Lib.hid (show Below w.heap.size w W1 from by rw [← hW1]; exact (Below.refl _ _).alloc (Nat.le_refl _) _)
  have X1 := Lib.hid (show Blk W1 w.heap.size 30 #[.string n, .int .u16 t, .int .u16 c, .int .u32 l, .string d] from by rw [← hW1]; exact Blk.new _ _ _)
  rw [hW1]
  clear hW1
  refine (HC.out _).mono ?_
  rintro e w2 ⟨rfl, hb⟩
  have B2 := Lib.hid (B1.out.trans (hb.mono B1.out.size))
  have X2 := Lib.hid (X1.out.below hb X1.out.lt)
  clear hb
  rcases HN.out with ⟨h1, h2⟩ | ⟨h1, h2⟩
  case inr =>
    rw [h2]
    have h4 := Lib.hid (show st = false from by rw [HX.out, h1]; rfl)
    clear h1 h2 HX HW2 HC HN
    go_wp2_with (fail)
    go_ret
    exact ⟨by rw [h4.out] <;> rfl, B2.out⟩
  rw [h2]
  have HX2 := Lib.hid (show st = (decide (c = 1) && (!decide (t = 41) && wi)) from by rw [HX.out, h1]; rfl)
  clear h1 h2 HX HC HN
  have x0 := X2.out.cell 0
  have x1 := X2.out.cell 1
  have x2 := X2.out.cell 2
  by_cases hc : c = 1
  case neg =>
    have h4 := Lib.hid (show st = false from by rw [HX2.out]; simp [hc])
    have q : (c == 1) = false := by simp [hc]
    clear HX2 HW2 hc
    go_wp2_with (fail)
    go_ret
    exact ⟨by rw [h4.out] <;> rfl, B2.out⟩
  subst hc
  by_cases ht : t = 41
  case pos =>
    subst ht
    have h4 := Lib.hid (show st = false from by rw [HX2.out]; simp)
    clear HX2 HW2
    go_wp2_with (fail)
    go_ret
    exact ⟨by rw [h4.out] <;> rfl, B2.out⟩
  have q1 : (t == 41) = false := by simp [ht]
  have q2 : (t != 41) = true := by simp [ht]
  have HX3 := Lib.hid (show st = wi from by rw [HX2.out]; simp [ht])
  clear HX2
  go_wp2_with (fail)
  refine (HW2.out _).mono ?_
  rintro e w3 ⟨rfl, hb⟩
  have B3 := Lib.hid (B2.out.trans (hb.mono B2.out.size))
  clear hb x0 x1 x2
  go_wp2_with (fail)
  go_ret
  exact ⟨by rw [HX3.out] <;> rfl, B3.out⟩
end Go.Proofs.Ythjkdpphbipgfaa
