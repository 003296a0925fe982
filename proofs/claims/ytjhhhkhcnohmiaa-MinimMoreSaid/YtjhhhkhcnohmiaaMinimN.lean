/- The walks of minim's Next, Deeper, Tells. -/
import Derived.Test.YtjhhhkhcnohmiaaMinimM
import Derived.Test.YtjhhhkhcnohmiaaNext2
namespace Go.Proofs.Ytjhhhkhcnohmiaa
open Go.RowKit

theorem eNext_0 (w : World) (q : Qn) : Blk ((w.alloc (.cells #[.string q.n, .int .u16 q.t, .int .u16 q.c] 39)).alloc (.cells #[.string ⟨#[]⟩, .int .u16 0, .int .u16 0] 39)) w.heap.size 39 #[.string q.n, .int .u16 q.t, .int .u16 q.c] := (Blk.new w _ _).alloc _
theorem eNext_1 (w : World) (q : Qn) : Blk ((w.alloc (.cells #[.string q.n, .int .u16 q.t, .int .u16 q.c] 39)).alloc (.cells #[.string ⟨#[]⟩, .int .u16 0, .int .u16 0] 39)) (w.heap.size + 1) 39 #[.string ⟨#[]⟩, .int .u16 0, .int .u16 0] := by
  have := Blk.new (w.alloc (.cells #[.string q.n, .int .u16 q.t, .int .u16 q.c] 39)) 39 #[.string ⟨#[]⟩, .int .u16 0, .int .u16 0]
  rw [World.size_alloc] at this
  exact this
/-- The two boxes that Next and Deeper make. -/
def SQ (w : World) (q : Qn) (W : World) : Prop := Blk W w.heap.size 39 #[.string q.n, .int .u16 q.t, .int .u16 q.c] ∧ Blk W (w.heap.size + 1) 39 #[.string ⟨#[]⟩, .int .u16 0, .int .u16 0] ∧ Below w.heap.size w W
theorem SQ.start (w : World) (q : Qn) : SQ w q ((w.alloc (.cells #[.string q.n, .int .u16 q.t, .int .u16 q.c] 39)).alloc (.cells #[.string ⟨#[]⟩, .int .u16 0, .int .u16 0] 39)) :=
  ⟨eNext_0 w q, eNext_1 w q, ((Below.refl _ _).alloc (Nat.le_refl _) _).alloc (by simp) _⟩
theorem SQ.next {w W W' : World} {q : Qn} (h : SQ w q W) (hb : Below W.heap.size W W') : SQ w q W' := ⟨h.1.below hb h.1.lt, h.2.1.below hb h.2.1.lt, h.2.2.trans (hb.mono h.2.2.size)⟩
theorem SQ.low3 {w W : World} {q : Qn} (h : SQ w q W) (a b c : Value) : Below w.heap.size w (((W.setCell ⟨w.heap.size + 1, 0, none⟩ a).setCell ⟨w.heap.size + 1, 1, none⟩ b).setCell ⟨w.heap.size + 1, 2, none⟩ c) := by
  have m6 : w.heap.size ≤ w.heap.size + 1 := by omega
  exact ((h.2.2.setCell m6 _).setCell m6 _).setCell m6 _

set_option maxRecDepth 100000 in
set_option maxHeartbeats 4000000 in
theorem mNext_any (q : Qn) (z : ByteArray) (hq : q.n.size ≤ maxLen) (hz : z.size ≤ maxLen) (w : World) :
    Calls Try.prog 57 #[q.v, .string z] w fun e w' => e = .returned (.tuple #[(nextQ q z).1.v, .int .i64 (nextQ q z).2]) ∧ Below w.heap.size w w' := by
  obtain ⟨n, t, c⟩ := q
  show Calls Try.prog 57 #[.agg #[.string n, .int .u16 t, .int .u16 c], .string z] w _
  have S0 := Lib.hid (SQ.start w ⟨n, t, c⟩)
  have hC1 := fun W => Check_any n hq W
  have hC2 := fun W => Check_any z hz W
  have hD := fun W => Depth_any n z hq hz W
  have yes : ∀ {l : Bs}, isName l = true → chkN l = 0 := fun h => by unfold chkN; rw [if_pos h]
  have no : ∀ {l : Bs}, isName l = false → chkN l = 2 := fun h => by unfold chkN; rw [if_neg (by simp [h])]
  cases h1 : isName n.data.toList with
  | false =>
    have hr : nextQ ⟨n, t, c⟩ z = (q0, 2) := if_pos (.inl h1)
    rw [no h1] at hC1
    rw [hr]
    have HC1 := Lib.hid hC1
    clear hC1 hC2 hD hr h1 hq hz yes no
    go_enter Try.func57, Try.ntmps57
    go_wp2_with (fail)
    with_reducible refine (HC1.out _).mono ?_
    rintro e w1 ⟨rfl, hb⟩
    have S1 := Lib.hid (S0.out.next hb)
    have c0 := S1.out.2.1.cell 0
    have f0 := S1.out.2.1.frozen 0
    have e0 := S1.out.1.cell 0
    have c1 := S1.out.2.1.cell 1
    have f1 := S1.out.2.1.frozen 1
    have e1 := S1.out.1.cell 1
    have c2 := S1.out.2.1.cell 2
    have f2 := S1.out.2.1.frozen 2
    have e2 := S1.out.1.cell 2
    have l1 := S1.out.2.1.lt
    have l0 := S1.out.1.lt
    clear hb
    go_wp2_with (fail)
    refine bodyPost_ret (v := .tuple #[.agg #[.string ⟨#[]⟩, .int .u16 0, .int .u16 0], .int .i64 2]) (by simp [results, Try.results57, go_sem, c0, c1, c2]) rfl ⟨rfl, S1.out.low3 _ _ _⟩
  | true =>
    rw [yes h1] at hC1
    cases h2 : isName z.data.toList with
    | false =>
      have hr : nextQ ⟨n, t, c⟩ z = (q0, 2) := if_pos (.inr h2)
      rw [no h2] at hC2
      rw [hr]
      have HC1 := Lib.hid hC1
      have HC2 := Lib.hid hC2
      clear hC1 hC2 hD hr h1 h2 hq hz yes no
      go_enter Try.func57, Try.ntmps57
      go_wp2_with (fail)
      with_reducible refine (HC1.out _).mono ?_
      rintro e w1 ⟨rfl, hb⟩
      have S1 := Lib.hid (S0.out.next hb)
      have c0 := S1.out.2.1.cell 0
      have f0 := S1.out.2.1.frozen 0
      have e0 := S1.out.1.cell 0
      have c1 := S1.out.2.1.cell 1
      have f1 := S1.out.2.1.frozen 1
      have e1 := S1.out.1.cell 1
      have c2 := S1.out.2.1.cell 2
      have f2 := S1.out.2.1.frozen 2
      have e2 := S1.out.1.cell 2
      have l1 := S1.out.2.1.lt
      have l0 := S1.out.1.lt
      clear hb
      go_wp2_with (fail)
      with_reducible refine (HC2.out _).mono ?_
      rintro e w2 ⟨rfl, hb⟩
      have S2 := Lib.hid (S1.out.next hb)
      clear c0 c1 c2 f0 f1 f2 e0 e1 e2 l0 l1
      have c0 := S2.out.2.1.cell 0
      have f0 := S2.out.2.1.frozen 0
      have e0 := S2.out.1.cell 0
      have c1 := S2.out.2.1.cell 1
      have f1 := S2.out.2.1.frozen 1
      have e1 := S2.out.1.cell 1
      have c2 := S2.out.2.1.cell 2
      have f2 := S2.out.2.1.frozen 2
      have e2 := S2.out.1.cell 2
      have l1 := S2.out.2.1.lt
      have l0 := S2.out.1.lt
      clear hb
      go_wp2_with (fail)
      refine bodyPost_ret (v := .tuple #[.agg #[.string ⟨#[]⟩, .int .u16 0, .int .u16 0], .int .i64 2]) (by simp [results, Try.results57, go_sem, c0, c1, c2]) rfl ⟨rfl, S2.out.low3 _ _ _⟩
    | true =>
      rw [yes h2] at hC2
      cases h3 : withinB n.data.toList z.data.toList with
      | false =>
        have hr : nextQ ⟨n, t, c⟩ z = (q0, 3) := by
          unfold nextQ
          rw [if_neg (by simp [h1, h2]), if_pos (depth_no h3)]
        rw [depth_no h3] at hD
        rw [hr]
        have HC1 := Lib.hid hC1
        have HC2 := Lib.hid hC2
        have HD := Lib.hid hD
        clear hC1 hC2 hD hr h1 h2 h3 hq hz yes no
        go_enter Try.func57, Try.ntmps57
        go_wp2_with (fail)
        with_reducible refine (HC1.out _).mono ?_
        rintro e w1 ⟨rfl, hb⟩
        have S1 := Lib.hid (S0.out.next hb)
        have c0 := S1.out.2.1.cell 0
        have f0 := S1.out.2.1.frozen 0
        have e0 := S1.out.1.cell 0
        have c1 := S1.out.2.1.cell 1
        have f1 := S1.out.2.1.frozen 1
        have e1 := S1.out.1.cell 1
        have c2 := S1.out.2.1.cell 2
        have f2 := S1.out.2.1.frozen 2
        have e2 := S1.out.1.cell 2
        have l1 := S1.out.2.1.lt
        have l0 := S1.out.1.lt
        clear hb
        go_wp2_with (fail)
        with_reducible refine (HC2.out _).mono ?_
        rintro e w2 ⟨rfl, hb⟩
        have S2 := Lib.hid (S1.out.next hb)
        clear c0 c1 c2 f0 f1 f2 e0 e1 e2 l0 l1
        have c0 := S2.out.2.1.cell 0
        have f0 := S2.out.2.1.frozen 0
        have e0 := S2.out.1.cell 0
        have c1 := S2.out.2.1.cell 1
        have f1 := S2.out.2.1.frozen 1
        have e1 := S2.out.1.cell 1
        have c2 := S2.out.2.1.cell 2
        have f2 := S2.out.2.1.frozen 2
        have e2 := S2.out.1.cell 2
        have l1 := S2.out.2.1.lt
        have l0 := S2.out.1.lt
        clear hb
        go_wp2_with (fail)
        with_reducible refine (HD.out _).mono ?_
        rintro e w3 ⟨rfl, hb⟩
        have S3 := Lib.hid (S2.out.next hb)
        clear c0 c1 c2 f0 f1 f2 e0 e1 e2 l0 l1
        have c0 := S3.out.2.1.cell 0
        have f0 := S3.out.2.1.frozen 0
        have e0 := S3.out.1.cell 0
        have c1 := S3.out.2.1.cell 1
        have f1 := S3.out.2.1.frozen 1
        have e1 := S3.out.1.cell 1
        have c2 := S3.out.2.1.cell 2
        have f2 := S3.out.2.1.frozen 2
        have e2 := S3.out.1.cell 2
        have l1 := S3.out.2.1.lt
        have l0 := S3.out.1.lt
        clear hb
        go_wp2_with (fail)
        refine bodyPost_ret (v := .tuple #[.agg #[.string ⟨#[]⟩, .int .u16 0, .int .u16 0], .int .i64 3]) (by simp [results, Try.results57, go_sem, c0, c1, c2]) rfl ⟨rfl, S3.out.low3 _ _ _⟩
      | true =>
        have hr := next_within (q := ⟨n, t, c⟩) h3
        obtain ⟨hd1, hd2⟩ := depth_yes h3
        have hle : (labs z.data.toList).1.length ≤ (labs n.data.toList).1.length := within_len h3
        rw [hr]
        by_cases h4 : depthN n.data.toList z.data.toList ≤ 1
        · rw [if_pos h4]
          have h5 : depthN n.data.toList z.data.toList = 0 ∨ depthN n.data.toList z.data.toList = 1 := by omega
          have HC1 := Lib.hid hC1
          have HC2 := Lib.hid hC2
          rcases h5 with h5 | h5
          all_goals
            rw [h5] at hD
            have HD := Lib.hid hD
            clear hC1 hC2 hD hr h1 h2 h3 hq hz yes no h4 h5 hd1 hd2 hle
            go_enter Try.func57, Try.ntmps57
            go_wp2_with (fail)
            with_reducible refine (HC1.out _).mono ?_
            rintro e w1 ⟨rfl, hb⟩
            have S1 := Lib.hid (S0.out.next hb)
            have c0 := S1.out.2.1.cell 0
            have f0 := S1.out.2.1.frozen 0
            have e0 := S1.out.1.cell 0
            have c1 := S1.out.2.1.cell 1
            have f1 := S1.out.2.1.frozen 1
            have e1 := S1.out.1.cell 1
            have c2 := S1.out.2.1.cell 2
            have f2 := S1.out.2.1.frozen 2
            have e2 := S1.out.1.cell 2
            have l1 := S1.out.2.1.lt
            have l0 := S1.out.1.lt
            clear hb
            go_wp2_with (fail)
            with_reducible refine (HC2.out _).mono ?_
            rintro e w2 ⟨rfl, hb⟩
            have S2 := Lib.hid (S1.out.next hb)
            clear c0 c1 c2 f0 f1 f2 e0 e1 e2 l0 l1
            have c0 := S2.out.2.1.cell 0
            have f0 := S2.out.2.1.frozen 0
            have e0 := S2.out.1.cell 0
            have c1 := S2.out.2.1.cell 1
            have f1 := S2.out.2.1.frozen 1
            have e1 := S2.out.1.cell 1
            have c2 := S2.out.2.1.cell 2
            have f2 := S2.out.2.1.frozen 2
            have e2 := S2.out.1.cell 2
            have l1 := S2.out.2.1.lt
            have l0 := S2.out.1.lt
            clear hb
            go_wp2_with (fail)
            with_reducible refine (HD.out _).mono ?_
            rintro e w3 ⟨rfl, hb⟩
            have S3 := Lib.hid (S2.out.next hb)
            clear c0 c1 c2 f0 f1 f2 e0 e1 e2 l0 l1
            have c0 := S3.out.2.1.cell 0
            have f0 := S3.out.2.1.frozen 0
            have e0 := S3.out.1.cell 0
            have c1 := S3.out.2.1.cell 1
            have f1 := S3.out.2.1.frozen 1
            have e1 := S3.out.1.cell 1
            have c2 := S3.out.2.1.cell 2
            have f2 := S3.out.2.1.frozen 2
            have e2 := S3.out.1.cell 2
            have l1 := S3.out.2.1.lt
            have l0 := S3.out.1.lt
            clear hb
            go_wp2_with (fail)
            refine bodyPost_ret (v := .tuple #[.agg #[.string n, .int .u16 t, .int .u16 c], .int .i64 0]) (by simp [results, Try.results57, go_sem, c0, c1, c2]) rfl ⟨rfl, S3.out.low3 _ _ _⟩
        · rw [if_neg h4]
          obtain ⟨m, hm⟩ : ∃ m : Nat, depthN n.data.toList z.data.toList = (m : Int) + 1 := ⟨(depthN n.data.toList z.data.toList - 1).toNat, by omega⟩
          have hN := fun W => Next_yes z n hq hz h1 h2 m hm (by omega) W
          have hm2 : (depthN n.data.toList z.data.toList).toNat - 1 = m := by omega
          have hX : (⟨(n.data.toList.drop (pos (labs n.data.toList).1 m)).toArray⟩ : ByteArray) = above n m := rfl
          rw [hX] at hN
          show Calls _ _ _ _ (fun e w' => e = .returned (.tuple #[.agg #[.string (above n ((depthN n.data.toList z.data.toList).toNat - 1)), .int .u16 2, .int .u16 c], .int .i64 0]) ∧ _)
          rw [hm2]
          rw [hm] at hD
          generalize above n m = X at hN ⊢
          have t1 : ((m : Int) + 1 == -1) = false := by simp only [beq_eq_false_iff_ne]; omega
          have t2 : ((m : Int) + 1 == 0) = false := by simp only [beq_eq_false_iff_ne]; omega
          have t3 : ((m : Int) + 1 == 1) = false := by simp only [beq_eq_false_iff_ne]; omega
          have HC1 := Lib.hid hC1
          have HC2 := Lib.hid hC2
          have HD := Lib.hid hD
          have HN := Lib.hid hN
          clear hC1 hC2 hD hr h1 h2 h3 hq hz yes no h4 hd1 hd2 hle hm hm2 hN hX
          go_enter Try.func57, Try.ntmps57
          go_wp2_with (fail)
          with_reducible refine (HC1.out _).mono ?_
          rintro e w1 ⟨rfl, hb⟩
          have S1 := Lib.hid (S0.out.next hb)
          have c0 := S1.out.2.1.cell 0
          have f0 := S1.out.2.1.frozen 0
          have e0 := S1.out.1.cell 0
          have c1 := S1.out.2.1.cell 1
          have f1 := S1.out.2.1.frozen 1
          have e1 := S1.out.1.cell 1
          have c2 := S1.out.2.1.cell 2
          have f2 := S1.out.2.1.frozen 2
          have e2 := S1.out.1.cell 2
          have l1 := S1.out.2.1.lt
          have l0 := S1.out.1.lt
          clear hb
          go_wp2_with (fail)
          with_reducible refine (HC2.out _).mono ?_
          rintro e w2 ⟨rfl, hb⟩
          have S2 := Lib.hid (S1.out.next hb)
          clear c0 c1 c2 f0 f1 f2 e0 e1 e2 l0 l1
          have c0 := S2.out.2.1.cell 0
          have f0 := S2.out.2.1.frozen 0
          have e0 := S2.out.1.cell 0
          have c1 := S2.out.2.1.cell 1
          have f1 := S2.out.2.1.frozen 1
          have e1 := S2.out.1.cell 1
          have c2 := S2.out.2.1.cell 2
          have f2 := S2.out.2.1.frozen 2
          have e2 := S2.out.1.cell 2
          have l1 := S2.out.2.1.lt
          have l0 := S2.out.1.lt
          clear hb
          go_wp2_with (fail)
          with_reducible refine (HD.out _).mono ?_
          rintro e w3 ⟨rfl, hb⟩
          have S3 := Lib.hid (S2.out.next hb)
          clear c0 c1 c2 f0 f1 f2 e0 e1 e2 l0 l1
          have c0 := S3.out.2.1.cell 0
          have f0 := S3.out.2.1.frozen 0
          have e0 := S3.out.1.cell 0
          have c1 := S3.out.2.1.cell 1
          have f1 := S3.out.2.1.frozen 1
          have e1 := S3.out.1.cell 1
          have c2 := S3.out.2.1.cell 2
          have f2 := S3.out.2.1.frozen 2
          have e2 := S3.out.1.cell 2
          have l1 := S3.out.2.1.lt
          have l0 := S3.out.1.lt
          clear hb
          go_wp2_with (fail)
          with_reducible refine (HN.out _).mono ?_
          rintro e w4 ⟨rfl, hb⟩
          have S4 := Lib.hid (S3.out.next hb)
          clear c0 c1 c2 f0 f1 f2 e0 e1 e2 l0 l1
          have c0 := S4.out.2.1.cell 0
          have f0 := S4.out.2.1.frozen 0
          have e0 := S4.out.1.cell 0
          have c1 := S4.out.2.1.cell 1
          have f1 := S4.out.2.1.frozen 1
          have e1 := S4.out.1.cell 1
          have c2 := S4.out.2.1.cell 2
          have f2 := S4.out.2.1.frozen 2
          have e2 := S4.out.1.cell 2
          have l1 := S4.out.2.1.lt
          have l0 := S4.out.1.lt
          clear hb
          go_wp2_with (fail)
          refine bodyPost_ret (v := .tuple #[.agg #[.string X, .int .u16 2, .int .u16 c], .int .i64 0]) (by simp [results, Try.results57, go_sem, c0, c1, c2]) rfl ⟨rfl, S4.out.low3 _ _ _⟩

set_option maxRecDepth 100000 in
set_option maxHeartbeats 4000000 in
theorem mDeeper_any (q : Qn) (z x : ByteArray) (hq : q.n.size ≤ maxLen) (hz : z.size ≤ maxLen) (hx : x.size ≤ maxLen) (w : World) :
    Calls Try.prog 58 #[q.v, .string z, .string x] w fun e w' => e = .returned (.tuple #[(deepQ q z x).1.v, .int .i64 (deepQ q z x).2]) ∧ Below w.heap.size w w' := by
  have hN := fun W => mNext_any q x hq hx W
  obtain ⟨n, t, c⟩ := q
  show Calls Try.prog 58 #[.agg #[.string n, .int .u16 t, .int .u16 c], .string z, .string x] w _
  have S0 := Lib.hid (SQ.start w ⟨n, t, c⟩)
  have hC1 := fun W => Check_any n hq W
  have hC2 := fun W => Check_any z hz W
  have hC3 := fun W => Check_any x hx W
  have hW := fun W => Within_any x z hx hz W
  have yes : ∀ {l : Bs}, isName l = true → chkN l = 0 := fun h => by unfold chkN; rw [if_pos h]
  have no : ∀ {l : Bs}, isName l = false → chkN l = 2 := fun h => by unfold chkN; rw [if_neg (by simp [h])]
  cases h1 : isName n.data.toList with
  | false =>
    have hr : deepQ ⟨n, t, c⟩ z x = (q0, 2) := if_pos (.inl h1)
    rw [no h1] at hC1
    rw [hr]
    have HC1 := Lib.hid hC1
    clear hC1 hC2 hC3 hW hN hr h1 hq hz hx yes no
    go_enter Try.func58, Try.ntmps58
    go_wp2_with (fail)
    with_reducible refine (HC1.out _).mono ?_
    rintro e w1 ⟨rfl, hb⟩
    have S1 := Lib.hid (S0.out.next hb)
    have c0 := S1.out.2.1.cell 0
    have f0 := S1.out.2.1.frozen 0
    have e0 := S1.out.1.cell 0
    have c1 := S1.out.2.1.cell 1
    have f1 := S1.out.2.1.frozen 1
    have e1 := S1.out.1.cell 1
    have c2 := S1.out.2.1.cell 2
    have f2 := S1.out.2.1.frozen 2
    have e2 := S1.out.1.cell 2
    have l1 := S1.out.2.1.lt
    have l0 := S1.out.1.lt
    clear hb
    go_wp2_with (fail)
    refine bodyPost_ret (v := .tuple #[.agg #[.string ⟨#[]⟩, .int .u16 0, .int .u16 0], .int .i64 2]) (by simp [results, Try.results58, go_sem, c0, c1, c2]) rfl ⟨rfl, S1.out.low3 _ _ _⟩
  | true =>
    rw [yes h1] at hC1
    cases h2 : isName z.data.toList with
    | false =>
      have hr : deepQ ⟨n, t, c⟩ z x = (q0, 2) := if_pos (.inr (.inl h2))
      rw [no h2] at hC2
      rw [hr]
      have HC1 := Lib.hid hC1
      have HC2 := Lib.hid hC2
      clear hC1 hC2 hC3 hW hN hr h1 h2 hq hz hx yes no
      go_enter Try.func58, Try.ntmps58
      go_wp2_with (fail)
      with_reducible refine (HC1.out _).mono ?_
      rintro e w1 ⟨rfl, hb⟩
      have S1 := Lib.hid (S0.out.next hb)
      have c0 := S1.out.2.1.cell 0
      have f0 := S1.out.2.1.frozen 0
      have e0 := S1.out.1.cell 0
      have c1 := S1.out.2.1.cell 1
      have f1 := S1.out.2.1.frozen 1
      have e1 := S1.out.1.cell 1
      have c2 := S1.out.2.1.cell 2
      have f2 := S1.out.2.1.frozen 2
      have e2 := S1.out.1.cell 2
      have l1 := S1.out.2.1.lt
      have l0 := S1.out.1.lt
      clear hb
      go_wp2_with (fail)
      with_reducible refine (HC2.out _).mono ?_
      rintro e w2 ⟨rfl, hb⟩
      have S2 := Lib.hid (S1.out.next hb)
      clear c0 c1 c2 f0 f1 f2 e0 e1 e2 l0 l1
      have c0 := S2.out.2.1.cell 0
      have f0 := S2.out.2.1.frozen 0
      have e0 := S2.out.1.cell 0
      have c1 := S2.out.2.1.cell 1
      have f1 := S2.out.2.1.frozen 1
      have e1 := S2.out.1.cell 1
      have c2 := S2.out.2.1.cell 2
      have f2 := S2.out.2.1.frozen 2
      have e2 := S2.out.1.cell 2
      have l1 := S2.out.2.1.lt
      have l0 := S2.out.1.lt
      clear hb
      go_wp2_with (fail)
      refine bodyPost_ret (v := .tuple #[.agg #[.string ⟨#[]⟩, .int .u16 0, .int .u16 0], .int .i64 2]) (by simp [results, Try.results58, go_sem, c0, c1, c2]) rfl ⟨rfl, S2.out.low3 _ _ _⟩
    | true =>
      rw [yes h2] at hC2
      cases h3 : isName x.data.toList with
      | false =>
        have hr : deepQ ⟨n, t, c⟩ z x = (q0, 2) := if_pos (.inr (.inr h3))
        rw [no h3] at hC3
        rw [hr]
        have HC1 := Lib.hid hC1
        have HC2 := Lib.hid hC2
        have HC3 := Lib.hid hC3
        clear hC1 hC2 hC3 hW hN hr h1 h2 h3 hq hz hx yes no
        go_enter Try.func58, Try.ntmps58
        go_wp2_with (fail)
        with_reducible refine (HC1.out _).mono ?_
        rintro e w1 ⟨rfl, hb⟩
        have S1 := Lib.hid (S0.out.next hb)
        have c0 := S1.out.2.1.cell 0
        have f0 := S1.out.2.1.frozen 0
        have e0 := S1.out.1.cell 0
        have c1 := S1.out.2.1.cell 1
        have f1 := S1.out.2.1.frozen 1
        have e1 := S1.out.1.cell 1
        have c2 := S1.out.2.1.cell 2
        have f2 := S1.out.2.1.frozen 2
        have e2 := S1.out.1.cell 2
        have l1 := S1.out.2.1.lt
        have l0 := S1.out.1.lt
        clear hb
        go_wp2_with (fail)
        with_reducible refine (HC2.out _).mono ?_
        rintro e w2 ⟨rfl, hb⟩
        have S2 := Lib.hid (S1.out.next hb)
        clear c0 c1 c2 f0 f1 f2 e0 e1 e2 l0 l1
        have c0 := S2.out.2.1.cell 0
        have f0 := S2.out.2.1.frozen 0
        have e0 := S2.out.1.cell 0
        have c1 := S2.out.2.1.cell 1
        have f1 := S2.out.2.1.frozen 1
        have e1 := S2.out.1.cell 1
        have c2 := S2.out.2.1.cell 2
        have f2 := S2.out.2.1.frozen 2
        have e2 := S2.out.1.cell 2
        have l1 := S2.out.2.1.lt
        have l0 := S2.out.1.lt
        clear hb
        go_wp2_with (fail)
        with_reducible refine (HC3.out _).mono ?_
        rintro e w3 ⟨rfl, hb⟩
        have S3 := Lib.hid (S2.out.next hb)
        clear c0 c1 c2 f0 f1 f2 e0 e1 e2 l0 l1
        have c0 := S3.out.2.1.cell 0
        have f0 := S3.out.2.1.frozen 0
        have e0 := S3.out.1.cell 0
        have c1 := S3.out.2.1.cell 1
        have f1 := S3.out.2.1.frozen 1
        have e1 := S3.out.1.cell 1
        have c2 := S3.out.2.1.cell 2
        have f2 := S3.out.2.1.frozen 2
        have e2 := S3.out.1.cell 2
        have l1 := S3.out.2.1.lt
        have l0 := S3.out.1.lt
        clear hb
        go_wp2_with (fail)
        refine bodyPost_ret (v := .tuple #[.agg #[.string ⟨#[]⟩, .int .u16 0, .int .u16 0], .int .i64 2]) (by simp [results, Try.results58, go_sem, c0, c1, c2]) rfl ⟨rfl, S3.out.low3 _ _ _⟩
      | true =>
        rw [yes h3] at hC3
        cases h4 : withinB x.data.toList z.data.toList with
        | false =>
          have hr : deepQ ⟨n, t, c⟩ z x = (q0, 3) := by
            unfold deepQ
            rw [if_neg (by simp [h1, h2, h3]), if_pos h4]
          rw [h4] at hW
          rw [hr]
          have HC1 := Lib.hid hC1
          have HC2 := Lib.hid hC2
          have HC3 := Lib.hid hC3
          have HW := Lib.hid hW
          clear hC1 hC2 hC3 hW hN hr h1 h2 h3 h4 hq hz hx yes no
          go_enter Try.func58, Try.ntmps58
          go_wp2_with (fail)
          with_reducible refine (HC1.out _).mono ?_
          rintro e w1 ⟨rfl, hb⟩
          have S1 := Lib.hid (S0.out.next hb)
          have c0 := S1.out.2.1.cell 0
          have f0 := S1.out.2.1.frozen 0
          have e0 := S1.out.1.cell 0
          have c1 := S1.out.2.1.cell 1
          have f1 := S1.out.2.1.frozen 1
          have e1 := S1.out.1.cell 1
          have c2 := S1.out.2.1.cell 2
          have f2 := S1.out.2.1.frozen 2
          have e2 := S1.out.1.cell 2
          have l1 := S1.out.2.1.lt
          have l0 := S1.out.1.lt
          clear hb
          go_wp2_with (fail)
          with_reducible refine (HC2.out _).mono ?_
          rintro e w2 ⟨rfl, hb⟩
          have S2 := Lib.hid (S1.out.next hb)
          clear c0 c1 c2 f0 f1 f2 e0 e1 e2 l0 l1
          have c0 := S2.out.2.1.cell 0
          have f0 := S2.out.2.1.frozen 0
          have e0 := S2.out.1.cell 0
          have c1 := S2.out.2.1.cell 1
          have f1 := S2.out.2.1.frozen 1
          have e1 := S2.out.1.cell 1
          have c2 := S2.out.2.1.cell 2
          have f2 := S2.out.2.1.frozen 2
          have e2 := S2.out.1.cell 2
          have l1 := S2.out.2.1.lt
          have l0 := S2.out.1.lt
          clear hb
          go_wp2_with (fail)
          with_reducible refine (HC3.out _).mono ?_
          rintro e w3 ⟨rfl, hb⟩
          have S3 := Lib.hid (S2.out.next hb)
          clear c0 c1 c2 f0 f1 f2 e0 e1 e2 l0 l1
          have c0 := S3.out.2.1.cell 0
          have f0 := S3.out.2.1.frozen 0
          have e0 := S3.out.1.cell 0
          have c1 := S3.out.2.1.cell 1
          have f1 := S3.out.2.1.frozen 1
          have e1 := S3.out.1.cell 1
          have c2 := S3.out.2.1.cell 2
          have f2 := S3.out.2.1.frozen 2
          have e2 := S3.out.1.cell 2
          have l1 := S3.out.2.1.lt
          have l0 := S3.out.1.lt
          clear hb
          go_wp2_with (fail)
          with_reducible refine (HW.out _).mono ?_
          rintro e w4 ⟨rfl, hb⟩
          have S4 := Lib.hid (S3.out.next hb)
          clear c0 c1 c2 f0 f1 f2 e0 e1 e2 l0 l1
          have c0 := S4.out.2.1.cell 0
          have f0 := S4.out.2.1.frozen 0
          have e0 := S4.out.1.cell 0
          have c1 := S4.out.2.1.cell 1
          have f1 := S4.out.2.1.frozen 1
          have e1 := S4.out.1.cell 1
          have c2 := S4.out.2.1.cell 2
          have f2 := S4.out.2.1.frozen 2
          have e2 := S4.out.1.cell 2
          have l1 := S4.out.2.1.lt
          have l0 := S4.out.1.lt
          clear hb
          go_wp2_with (fail)
          refine bodyPost_ret (v := .tuple #[.agg #[.string ⟨#[]⟩, .int .u16 0, .int .u16 0], .int .i64 3]) (by simp [results, Try.results58, go_sem, c0, c1, c2]) rfl ⟨rfl, S4.out.low3 _ _ _⟩
        | true =>
          have hr : deepQ ⟨n, t, c⟩ z x = nextQ ⟨n, t, c⟩ x := by
            unfold deepQ
            rw [if_neg (by simp [h1, h2, h3]), if_neg (by simp [h4])]
          rw [h4] at hW
          rw [hr]
          generalize nextQ ⟨n, t, c⟩ x = R at hN ⊢
          obtain ⟨⟨rn, rt, rc⟩, re⟩ := R
          have hN' : ∀ W, Calls Try.prog 57 #[.agg #[.string n, .int .u16 t, .int .u16 c], .string x] W fun e w' => e = .returned (.tuple #[.agg #[.string rn, .int .u16 rt, .int .u16 rc], .int .i64 re]) ∧ Below W.heap.size W w' := hN
          have HC1 := Lib.hid hC1
          have HC2 := Lib.hid hC2
          have HC3 := Lib.hid hC3
          have HW := Lib.hid hW
          have HN := Lib.hid hN'
          clear hC1 hC2 hC3 hW hN hN' hr h1 h2 h3 h4 hq hz hx yes no
          go_enter Try.func58, Try.ntmps58
          go_wp2_with (fail)
          with_reducible refine (HC1.out _).mono ?_
          rintro e w1 ⟨rfl, hb⟩
          have S1 := Lib.hid (S0.out.next hb)
          have c0 := S1.out.2.1.cell 0
          have f0 := S1.out.2.1.frozen 0
          have e0 := S1.out.1.cell 0
          have c1 := S1.out.2.1.cell 1
          have f1 := S1.out.2.1.frozen 1
          have e1 := S1.out.1.cell 1
          have c2 := S1.out.2.1.cell 2
          have f2 := S1.out.2.1.frozen 2
          have e2 := S1.out.1.cell 2
          have l1 := S1.out.2.1.lt
          have l0 := S1.out.1.lt
          clear hb
          go_wp2_with (fail)
          with_reducible refine (HC2.out _).mono ?_
          rintro e w2 ⟨rfl, hb⟩
          have S2 := Lib.hid (S1.out.next hb)
          clear c0 c1 c2 f0 f1 f2 e0 e1 e2 l0 l1
          have c0 := S2.out.2.1.cell 0
          have f0 := S2.out.2.1.frozen 0
          have e0 := S2.out.1.cell 0
          have c1 := S2.out.2.1.cell 1
          have f1 := S2.out.2.1.frozen 1
          have e1 := S2.out.1.cell 1
          have c2 := S2.out.2.1.cell 2
          have f2 := S2.out.2.1.frozen 2
          have e2 := S2.out.1.cell 2
          have l1 := S2.out.2.1.lt
          have l0 := S2.out.1.lt
          clear hb
          go_wp2_with (fail)
          with_reducible refine (HC3.out _).mono ?_
          rintro e w3 ⟨rfl, hb⟩
          have S3 := Lib.hid (S2.out.next hb)
          clear c0 c1 c2 f0 f1 f2 e0 e1 e2 l0 l1
          have c0 := S3.out.2.1.cell 0
          have f0 := S3.out.2.1.frozen 0
          have e0 := S3.out.1.cell 0
          have c1 := S3.out.2.1.cell 1
          have f1 := S3.out.2.1.frozen 1
          have e1 := S3.out.1.cell 1
          have c2 := S3.out.2.1.cell 2
          have f2 := S3.out.2.1.frozen 2
          have e2 := S3.out.1.cell 2
          have l1 := S3.out.2.1.lt
          have l0 := S3.out.1.lt
          clear hb
          go_wp2_with (fail)
          with_reducible refine (HW.out _).mono ?_
          rintro e w4 ⟨rfl, hb⟩
          have S4 := Lib.hid (S3.out.next hb)
          clear c0 c1 c2 f0 f1 f2 e0 e1 e2 l0 l1
          have c0 := S4.out.2.1.cell 0
          have f0 := S4.out.2.1.frozen 0
          have e0 := S4.out.1.cell 0
          have c1 := S4.out.2.1.cell 1
          have f1 := S4.out.2.1.frozen 1
          have e1 := S4.out.1.cell 1
          have c2 := S4.out.2.1.cell 2
          have f2 := S4.out.2.1.frozen 2
          have e2 := S4.out.1.cell 2
          have l1 := S4.out.2.1.lt
          have l0 := S4.out.1.lt
          clear hb
          go_wp2_with (fail)
          with_reducible refine (HN.out _).mono ?_
          rintro e w5 ⟨rfl, hb⟩
          have S5 := Lib.hid (S4.out.next hb)
          clear c0 c1 c2 f0 f1 f2 e0 e1 e2 l0 l1
          have c0 := S5.out.2.1.cell 0
          have f0 := S5.out.2.1.frozen 0
          have e0 := S5.out.1.cell 0
          have c1 := S5.out.2.1.cell 1
          have f1 := S5.out.2.1.frozen 1
          have e1 := S5.out.1.cell 1
          have c2 := S5.out.2.1.cell 2
          have f2 := S5.out.2.1.frozen 2
          have e2 := S5.out.1.cell 2
          have l1 := S5.out.2.1.lt
          have l0 := S5.out.1.lt
          clear hb
          go_wp2_with (fail)
          refine bodyPost_ret (v := .tuple #[.agg #[.string rn, .int .u16 rt, .int .u16 rc], .int .i64 re]) (by simp [results, Try.results58, go_sem, c0, c1, c2]) rfl ⟨rfl, S5.out.low3 _ _ _⟩

set_option maxRecDepth 100000 in
theorem mTells_any (a q : Qn) (ha : a.n.size ≤ maxLen) (hq : q.n.size ≤ maxLen) (w : World) :
    Calls Try.prog 30 #[a.v, q.v] w fun e w' => e = .returned (.int .i64 (depthN q.n.data.toList a.n.data.toList)) ∧ Below w.heap.size w w' := by
  have HD := Lib.hid (fun W => Depth_any q.n a.n hq ha W)
  obtain ⟨n, t, c⟩ := a
  obtain ⟨n2, t2, c2⟩ := q
  dsimp only at HD ha hq
  show Calls Try.prog 30 #[.agg #[.string n, .int .u16 t, .int .u16 c], .agg #[.string n2, .int .u16 t2, .int .u16 c2]] w _
  have B0 := Lib.hid (((Below.refl _ w).alloc (Nat.le_refl _) (.cells #[.string n, .int .u16 t, .int .u16 c] 39)).alloc (by simp) (.cells #[.string n2, .int .u16 t2, .int .u16 c2] 39))
  clear ha hq
  go_enter Try.func30, Try.ntmps30
  go_wp2_with (fail)
  with_reducible refine (HD.out _).mono ?_
  rintro e w1 ⟨rfl, hb⟩
  have B1 := Lib.hid (B0.out.trans (hb.mono B0.out.size))
  clear hb
  go_wp2_with (fail)
  go_ret
  exact ⟨rfl, B1.out⟩
end Go.Proofs.Ytjhhhkhcnohmiaa
