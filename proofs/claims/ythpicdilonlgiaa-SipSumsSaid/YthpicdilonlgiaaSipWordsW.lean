/- The law SipWords, walked. -/
import Derived.Test.YthpicdilonlgiaaSipWords
namespace Go.Proofs.Ythpicdilonlgiaa
open Go.RowKit

/-- What 'same' holds behind k rounds. -/
def sm (X Y : List (BitVec 64)) (k : Nat) : Bool := decide (X.length = Y.length) && decide (X.take k = Y.take k)
theorem sm_len {X Y : List (BitVec 64)} {k : Nat} (h : sm X Y k = true) : X.length = Y.length := by
  simp only [sm, Bool.and_eq_true, decide_eq_true_eq] at h; exact h.1
theorem sm_succ {X Y : List (BitVec 64)} {k : Nat} (h : sm X Y k = true) (hx : k < X.length) (hy : k < Y.length) : sm X Y (k + 1) = (U X[k] == U Y[k]) := by
  simp only [sm, Bool.and_eq_true, decide_eq_true_eq] at h
  rw [Bool.eq_iff_iff]
  simp only [sm, Bool.and_eq_true, decide_eq_true_eq, beq_iff_eq]
  rw [List.take_succ_eq_append_getElem hx, List.take_succ_eq_append_getElem hy, h.2]
  constructor
  · rintro ⟨_, e⟩
    have := List.append_cancel_left e
    simp at this
    rw [this]
  · intro e
    exact ⟨h.1, by rw [U_inj e]⟩
theorem sm_false {X Y : List (BitVec 64)} {k : Nat} (h : sm X Y k = false) : sm X Y (k + 1) = false := by
  simp only [sm, Bool.and_eq_false_iff, decide_eq_false_iff_not] at h ⊢
  rcases h with h | h
  · exact .inl h
  · right
    intro e
    apply h
    have := congrArg (List.take k) e
    simpa [List.take_take, Nat.min_eq_left (Nat.le_succ k)] using this
theorem own_cells {w : World} {base : Nat} {e : TypeId} {g n cap : Nat} {X : List (BitVec 64)} (h : w.ownsRow base e 1 (.slice (some ⟨g, 0, none⟩) n cap) n (X.map u8v)) (k : Nat) (hk : k < X.length) : w.cell? ⟨g, k, none⟩ = some (.int .u64 (U X[k])) := by
  have := h.cells (g := g) rfl k (u8v X[k]) (by simp [hk])
  have e : (⟨g, 0, none⟩ : Addr).add k = ⟨g, k, none⟩ := by unfold Addr.add; split <;> simp_all
  rw [e] at this
  exact this

set_option maxRecDepth 100000 in
set_option maxHeartbeats 1000000 in
theorem sipWords_main (a b : ByteArray) (x : Nat) (hx : x ≤ 18446744073709551615) (ha : a.size ≤ 1024) (hb : b.size ≤ 1024) (w : World) :
    Calls Try.prog 9 #[.string a, .string b, .int .u64 (x : Int)] w fun e w' => e = .returned (.bool true) ∧ Below w.heap.size w w' := by
  have ha1 : (a.size : Int) ≤ 1024 := by omega
  have hb1 : (b.size : Int) ≤ 1024 := by omega
  have HX := Lib.hid hx
  clear hx
  go_enter Try.func9, Try.ntmps9
  go_wp2_with (fail)
  refine (lives08 _).mono ?_
  rintro e w1 ⟨rfl, hw1⟩
  go_wp2_with (fail)
  refine (Words_any a (by omega) _).mono ?_
  rintro e w2 ⟨v1, rfl, ho1, hw2⟩
  obtain ⟨g1, cap1, rfl, _, hlt1⟩ := ho1.form (by rw [wordsB_length]; omega)
  go_wp2_with (fail)
  refine (Words_any b (by omega) _).mono ?_
  rintro e w3 ⟨v2, rfl, ho2, hw3⟩
  obtain ⟨g2, cap2, rfl, _, hlt2⟩ := ho2.form (by rw [wordsB_length]; omega)
  have hxl := wordsB_length a.data.toList
  have hyl := wordsB_length b.data.toList
  have hsame : wordsB a.data.toList = wordsB b.data.toList → wordsL a.data.toList = wordsL b.data.toList := wordsB_eq
  have cX := own_cells ho1
  have cY := own_cells ho2
  have HS := Lib.hid hsame
  clear hsame
  generalize hX : wordsB a.data.toList = X at *
  generalize hY : wordsB b.data.toList = Y at *
  have HXX := Lib.hid hX
  have HYY := Lib.hid hY
  clear hX hY
  have cX3 : ∀ k (hk : k < X.length), w3.cell? ⟨g1, k, none⟩ = some (.int .u64 (U X[k])) := fun k hk => (hw3.cell (p := ⟨g1, k, none⟩) hlt1).trans (cX k hk)
  have HXL := Lib.hid hxl
  have HYL := Lib.hid hyl
  have HCX := Lib.hid cX3
  have HCY := Lib.hid cY
  have hxm : (X.length : Int) ≤ 1000 := by simp at hxl; omega
  have hym : (Y.length : Int) ≤ 1000 := by simp at hyl; omega
  have HB : Below w.heap.size w w3 := ((hw1.trans (hw2.mono hw1.size)).trans (hw3.mono (Nat.le_trans hw1.size hw2.size)))
  clear hxl hyl cX3 cY cX ho1 ho2 hw1 hw2 hw3 hlt1 hlt2
  go_wp2_with (fail)
  go_loopg [9, 10, 34] X.length (fun g s9 s10 i wr => ∃ k q : Nat, g + k = X.length ∧ i = .int .i64 (k : Int) ∧ s9 = .bool (sm X Y k) ∧ wr = w3.drewN q)
  case atStart => exact ⟨0, 0, by omega, rfl, congrArg Value.bool (by rw [Bool.eq_iff_iff]; simp only [sm, List.take_zero, decide_true, Bool.and_true, beq_iff_eq, decide_eq_true_eq]; omega), rfl⟩
  case round =>
    obtain ⟨k, q, hk, rfl, rfl, rfl⟩ := hrel
    have HK := Lib.hid hk
    by_cases hlt : k < X.length
    · have hki : (k : Int) < (X.length : Int) := by omega
      have c1 := HCX.out k hlt
      cases hsm : sm X Y k with
      | true =>
        have hxy := sm_len hsm
        have hlt2 : k < Y.length := by omega
        have hki2 : (k : Int) < (Y.length : Int) := by omega
        have c2 := HCY.out k hlt2
        have hnew := sm_succ hsm hlt hlt2
        have HN := Lib.hid hnew
        clear hnew hxy hsm hk
        generalize X[k] = xk at *
        generalize Y[k] = yk at *
        go_wp2
        go_quiet (fail)
        go_wp2
        go_roundg (X.length - (k + 1))
        case measure => have := HK.out; omega
        case rel =>
          have := HK.out
          exact ⟨k + 1, q + nq, by omega, by go_num, by rw [HN.out], by first | rfl | rw [World.drewN_drewN]⟩
      | false =>
        have hnew := sm_false hsm
        have HN := Lib.hid hnew
        clear hnew hsm hk
        go_wp2
        go_quiet (fail)
        go_wp2
        go_roundg (X.length - (k + 1))
        case measure => have := HK.out; omega
        case rel =>
          have := HK.out
          exact ⟨k + 1, q + nq, by omega, by go_num, by rw [HN.out], by first | rfl | rw [World.drewN_drewN]⟩
    · obtain rfl : k = X.length := by omega
      have hge : decide ((X.length : Int) < (X.length : Int)) = false := by simp
      have hbytes := fun W => bytes_any x HX.out W
      have hv : ∀ W, Calls Try.prog 35 #[.string ⟨(bytesL x 8).toArray⟩] W fun e w' => e = .returned (.tuple #[.int .u64 (x : Int), .int .i64 0]) ∧ W = w' := by
        intro W
        have h8 : (⟨(bytesL x 8).toArray⟩ : ByteArray).size = 8 := by show (bytesL x 8).toArray.size = 8; simp [bytesL]
        have h := value_any ⟨(bytesL x 8).toArray⟩ (by rw [h8]; decide) W
        have e1 : valN ⟨(bytesL x 8).toArray⟩ = (x : Int) := by
          unfold valN
          rw [if_pos h8]
          show ((lowL (bytesL x 8) : Nat) : Int) = _
          rw [lowL_bytes]
          have := HX.out
          have h3 : 256 ^ 8 = 18446744073709551616 := by decide
          rw [h3]
          omega
        have e2 : valE ⟨(bytesL x 8).toArray⟩ = 0 := if_pos h8
        rw [e1, e2] at h
        exact h
      have HB1 := Lib.hid hbytes
      have HV := Lib.hid hv
      clear hbytes hv hk hlt
      generalize (bytesL x 8).toArray = bs at HB1 HV
      go_wp2_with (fail)
      refine (HB1.out _).mono ?_
      rintro e w4 ⟨rfl, hw4⟩
      go_wp2_with (fail)
      refine (HV.out _).mono ?_
      rintro e w4' ⟨rfl, rfl⟩
      have hxl : X.length = a.size / 8 + 1 := by simpa using HXL.out
      have HBW : Below w.heap.size w w4 := (below_drewN HB q).trans (hw4.mono HB.size)
      have HW := Lib.hid HBW
      have hxi : (X.length : Int) = (a.size : Int) / 8 + 1 := by omega
      clear hxl HBW hw4
      have FA : sm X Y X.length = true → (a.size : Int) % 256 = (b.size : Int) % 256 ∧ ((a.size : Int) = (b.size : Int) → a.toList = b.toList) := by
        intro hs
        have hl := sm_len hs
        have he : X = Y := by
          simp only [sm, Bool.and_eq_true, decide_eq_true_eq] at hs
          have h2 := hs.2
          rw [List.take_length, hl, List.take_length] at h2
          exact h2
        have hw := HS.out he
        have ea : a.data.toList.length = a.size := by simp
        have eb : b.data.toList.length = b.size := by simp
        have hm := words_eq_len hw
        refine ⟨by omega, fun e => ?_⟩
        rw [ByteArray.toList_eq, ByteArray.toList_eq]
        exact words_inj (by omega) hw
      have FB : a.toList = b.toList → sm X Y X.length = true := by
        intro e
        rw [ByteArray.toList_eq, ByteArray.toList_eq] at e
        have he : X = Y := by rw [← HXX.out, ← HYY.out, e]
        simp [sm, he]
      have HFA := Lib.hid FA
      have HFB := Lib.hid FB
      clear FA FB
      go_wp2_with (fail)
      go_ways
      all_goals first
        | (go_ret; exact ⟨retb rfl, HW.out⟩)
        | (exfalso; exact absurd (HFA.out (by assumption)).1 (by assumption))
        | (exfalso; exact absurd ((HFA.out (by assumption)).2 (by assumption)) (by assumption))
        | (exfalso; exact absurd (HFB.out (by assumption)) (by assumption))
        | (go_ret; exact ⟨retb (by simp [*]), HW.out⟩)
        | (exfalso; have f1 := HFA.out; have f2 := HFB.out; simp_all; done)

set_option maxRecDepth 100000 in
set_option maxHeartbeats 1000000 in
theorem sipWords_big (a b : ByteArray) (x : Int) (hb : ¬(a.size ≤ 1024 ∧ b.size ≤ 1024)) (w : World) :
    Calls Try.prog 9 #[.string a, .string b, .int .u64 x] w fun e w' => e = .returned (.bool true) ∧ Below w.heap.size w w' := by
  have hb1 : ¬((a.size : Int) ≤ 1024 ∧ (b.size : Int) ≤ 1024) := by omega
  clear hb
  go_enter Try.func9, Try.ntmps9
  go_wp2_with (fail)
  refine (lives08 _).mono ?_
  rintro e w1 ⟨rfl, hw1⟩
  go_wp2_with (fail)
  go_ways
  all_goals first
    | (exfalso; omega)
    | (go_ret; exact ⟨retb rfl, hw1⟩)

theorem sipWords_law (a b : ByteArray) (x : Int) (_ha : a.size ≤ maxLen) (_hb : b.size ≤ maxLen) (hx : 0 ≤ x ∧ x ≤ 18446744073709551615) (w : World) :
    Calls Try.prog 9 #[.string a, .string b, .int .u64 x] w fun e w' => e = .returned (.bool true) ∧ Below w.heap.size w w' := by
  by_cases h : a.size ≤ 1024 ∧ b.size ≤ 1024
  · obtain ⟨n, rfl⟩ := Int.eq_ofNat_of_zero_le hx.1
    exact sipWords_main a b n (by omega) h.1 h.2 w
  · exact sipWords_big a b x h w
end Go.Proofs.Ythpicdilonlgiaa
