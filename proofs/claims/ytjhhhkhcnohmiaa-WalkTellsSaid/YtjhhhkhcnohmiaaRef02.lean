/- The walks of hardtackref02's Depth, Common, Next. -/
import Derived.Test.YtjhhhkhcnohmiaaRefUp
import Derived.Test.YtjhhhkhcnohmiaaNext3
namespace Go.Proofs.Ytjhhhkhcnohmiaa
open Go.RowKit Go.Lib

theorem within_names {a z : Bs} (h : withinB a z = true) : isName a = true ∧ isName z = true := by
  have := (within_iff a z).1 h
  exact ⟨this.1, this.2.1⟩

set_option maxRecDepth 100000 in
set_option maxHeartbeats 1000000 in
theorem rDepth_any (a z : ByteArray) (ha : a.size ≤ maxLen) (hz : z.size ≤ maxLen) (w : World) : Calls Try.prog 36 #[.string a, .string z] w fun e w' => e = .returned (.int .i64 (depthN a.data.toList z.data.toList)) ∧ Below w.heap.size w w' := by
  have HW := Lib.hid (fun W => rWithin_any a z ha hz W)
  have HA := Lib.hid (fun W => rCount_any a ha W)
  have HZ := Lib.hid (fun W => rCount_any z hz W)
  have hla := namL_length_le a.data.toList
  have hlz := namL_length_le z.data.toList
  simp only [ByteArray.size_data, Array.length_toList] at hla hlz
  unfold maxLen at ha hz
  unfold depthN
  generalize (namL a.data.toList).length = p at HA hla ⊢
  generalize (namL z.data.toList).length = q at HZ hlz ⊢
  cases h : withinB a.data.toList z.data.toList with
  | false =>
    rw [h] at HW
    rw [if_neg (by simp)]
    clear h hla hlz ha hz
    go_enter Try.func36, Try.ntmps36
    go_wp2_with (fail)
    with_reducible refine (HW.out _).mono ?_
    rintro e w1 ⟨rfl, hb⟩
    go_wp2_with (fail)
    go_ret
    exact ⟨rfl, hb⟩
  | true =>
    rw [h] at HW
    rw [if_pos rfl]
    have hpI : (p : Int) ≤ 9223372036854775807 := by omega
    have hqI : (q : Int) ≤ 9223372036854775807 := by omega
    clear h hla hlz ha hz
    go_enter Try.func36, Try.ntmps36
    go_wp2_with (fail)
    with_reducible refine (HW.out _).mono ?_
    rintro e w1 ⟨rfl, hb⟩
    have B1 := Lib.hid hb
    clear hb
    go_wp2_with (fail)
    with_reducible refine (HA.out _).mono ?_
    rintro e w2 ⟨rfl, hb⟩
    have B2 := Lib.hid (B1.out.trans (hb.mono B1.out.size))
    clear hb
    go_wp2_with (fail)
    with_reducible refine (HZ.out _).mono ?_
    rintro e w3 ⟨rfl, hb⟩
    have B3 := Lib.hid (B2.out.trans (hb.mono B2.out.size))
    clear hb
    go_wp2_with (fail)
    go_ret
    exact ⟨by first | rfl | go_num, B3.out⟩

set_option maxRecDepth 100000 in
set_option maxHeartbeats 1000000 in
theorem rCommon_no (a b : ByteArray) (ha : a.size ≤ maxLen) (hb : b.size ≤ maxLen) (hn : (isName a.data.toList && isName b.data.toList) = false) (w : World) :
    Calls Try.prog 34 #[.string a, .string b] w fun e w' => e = .returned (.tuple #[.string ⟨#[]⟩, .int .i64 2]) ∧ Below w.heap.size w w' := by
  have HA := Lib.hid (fun W => rCheck_any a ha W)
  have HB := Lib.hid (fun W => rCheck_any b hb W)
  rcases chk_cases a.data.toList with ⟨ha1, ha2⟩ | ⟨ha1, ha2⟩
  · rcases chk_cases b.data.toList with ⟨hb1, hb2⟩ | ⟨hb1, hb2⟩
    · rw [ha1, hb1] at hn; cases hn
    rw [ha2] at HA
    rw [hb2] at HB
    clear ha1 ha2 hb1 hb2 hn ha hb
    go_enter Try.func34, Try.ntmps34
    go_wp2_with (fail)
    with_reducible refine (HA.out _).mono ?_
    rintro e w1 ⟨rfl, hb⟩
    have B1 := Lib.hid hb
    clear hb
    go_wp2_with (fail)
    with_reducible refine (HB.out _).mono ?_
    rintro e w2 ⟨rfl, hb⟩
    have B2 := Lib.hid (B1.out.trans (hb.mono B1.out.size))
    clear hb
    go_wp2_with (fail)
    go_ret2
    exact ⟨rfl, B2.out⟩
  · rw [ha2] at HA
    clear ha1 ha2 hn ha hb
    go_enter Try.func34, Try.ntmps34
    go_wp2_with (fail)
    with_reducible refine (HA.out _).mono ?_
    rintro e w1 ⟨rfl, hb⟩
    have B1 := Lib.hid hb
    clear hb
    go_wp2_with (fail)
    go_ret2
    exact ⟨rfl, B1.out⟩

set_option maxRecDepth 100000 in
set_option maxHeartbeats 2000000 in
theorem rCommon_yes (a b : ByteArray) (ha : a.size ≤ maxLen) (hb : b.size ≤ maxLen) (hna : isName a.data.toList = true) (hnb : isName b.data.toList = true) (w : World) :
    Calls Try.prog 34 #[.string a, .string b] w fun e w' => e = .returned (.tuple #[.string ⟨(comB a.data.toList b.data.toList).toArray⟩, .int .i64 0]) ∧ Below w.heap.size w w' := by
  have HA := Lib.hid (fun W => rCheck_any a ha W)
  have HB := Lib.hid (fun W => rCheck_any b hb W)
  rw [show chkN a.data.toList = 0 from by unfold chkN; rw [if_pos hna]] at HA
  rw [show chkN b.data.toList = 0 from by unfold chkN; rw [if_pos hnb]] at HB
  have HU := Lib.hid (fun W => rUp_any a ha W)
  have hle : (upsL a.data.toList).length ≤ 256 := by
    rw [ups_length hna]
    have h1 := ((isName_iff _).1 hna).1
    have h2 := labs_length_le a.data.toList
    omega
  have hsz : ∀ x ∈ upsL a.data.toList, x.length ≤ 255 := fun x hx => by
    obtain ⟨k, _, rfl⟩ := (ups_mem hna).1 hx
    have h1 := ((isName_iff _).1 hna).1
    rw [List.length_drop]; omega
  have hroot := root_ups hna
  have hhit := fun (pre : List Bs) (x : Bs) (hp : pre ++ [x] <+: upsL a.data.toList) (h1 : ∀ n ∈ pre, withinB b.data.toList n = false) (h2 : withinB b.data.toList x = true) => com_hit hp h1 h2
  obtain ⟨U, hU⟩ : ∃ U, upsL a.data.toList = U := ⟨_, rfl⟩
  obtain ⟨z, hz⟩ : ∃ z : ByteArray, (⟨(comB a.data.toList b.data.toList).toArray⟩ : ByteArray) = z := ⟨_, rfl⟩
  rw [hz]
  rw [hU] at HU hle hsz hroot hhit
  have hlI : (U.length : Int) ≤ 256 := by omega
  have HH := Lib.hid (And.intro hsz (And.intro hroot (And.intro hhit (And.intro hz (And.intro hnb hb)))))
  clear hsz hroot hhit hz hU hle hna hnb ha hb
  go_enter Try.func34, Try.ntmps34
  go_wp2_with (fail)
  with_reducible refine (HA.out _).mono ?_
  rintro e w1 ⟨rfl, hb⟩
  have B1 := Lib.hid hb
  clear hb
  go_wp2_with (fail)
  with_reducible refine (HB.out _).mono ?_
  rintro e w2 ⟨rfl, hb⟩
  have B2 := Lib.hid (B1.out.trans (hb.mono B1.out.size))
  clear hb
  go_wp2_with (fail)
  with_reducible refine (HU.out _).mono ?_
  rintro e w3 ⟨A, c, rfl, h1, _, hb⟩
  have B3 := Lib.hid (B2.out.trans (hb.mono B2.out.size))
  have T3 := Lib.hid (sl_tt h1)
  clear hb h1
  go_wp2_with (fail)
  go_loopg [7, 19] U.length (fun g _ v wr => ∃ k : Nat, Aside (g + k = U.length) ∧ v = .int .i64 (k : Int) ∧ Aside (∀ n ∈ U.take k, withinB b.data.toList n = false) ∧ Aside (Below w3.heap.size w3 wr))
  case atStart => exact ⟨0, rfl, rfl, (show Aside _ from fun n hn => by simp at hn), Below.refl _ _⟩
  case round =>
    obtain ⟨k, hg, rfl, hpre, hbw⟩ := hrel
    by_cases hlt : k < U.length
    · obtain ⟨b0, o, rfl, hal, hac⟩ := T3.out (by rw [strs_len]; omega)
      obtain ⟨x, hxk⟩ : ∃ x, U[k]? = some x := ⟨_, List.getElem?_eq_getElem hlt⟩
      have a0 : wr.cell? ⟨b0, o + k, none⟩ = some (.string ⟨x.toArray⟩) := (hbw.out.cell (p := ⟨b0, o + k, none⟩) hal).trans (hac k _ (strs_get hxk))
      have hltI : (k : Int) < (U.length : Int) := by omega
      obtain ⟨X, hX⟩ : ∃ X : ByteArray, (⟨x.toArray⟩ : ByteArray) = X := ⟨_, rfl⟩
      have hXl : X.data.toList = x := by rw [← hX]
      rw [hX] at a0
      have hXs : X.size ≤ maxLen := by
        have h1 := HH.out.1 x (List.mem_of_getElem? hxk)
        rw [← hXl] at h1
        simp at h1
        unfold maxLen; omega
      have HW := Lib.hid (fun W => rWithin_any b X HH.out.2.2.2.2.2 hXs W)
      rw [hXl] at HW
      have htk : U.take (k + 1) = U.take k ++ [x] := by
        obtain ⟨q1, q2⟩ := List.getElem?_eq_some_iff.1 hxk
        rw [List.take_succ_eq_append_getElem q1, q2]
      cases hwi : withinB b.data.toList x with
      | true =>
        rw [hwi] at HW
        have hfin : X = z := by
          have h1 := HH.out.2.2.1 (U.take k) x (by rw [← htk]; exact List.take_prefix _ _) hpre.out hwi
          rw [← HH.out.2.2.2.1, h1, hX]
        subst hfin
        clear hac hxk hX hXl hXs htk hwi hlt
        go_wp2_with (fail)
        with_reducible refine (HW.out _).mono ?_
        rintro e w4 ⟨rfl, hb⟩
        have B4 := Lib.hid (B3.out.trans ((hbw.out.trans (hb.mono hbw.out.size)).mono B3.out.size))
        clear hb
        go_wp2_with (fail)
        go_ret2
        exact ⟨rfl, B4.out⟩
      | false =>
        rw [hwi] at HW
        have hp2 : ∀ n ∈ U.take (k + 1), withinB b.data.toList n = false := by
          rw [htk]
          intro n hn
          rcases List.mem_append.1 hn with h | h
          · exact hpre.out n h
          · rw [List.mem_singleton.1 h]; exact hwi
        have HP := Lib.hid (And.intro hp2 hlt)
        clear hac hxk hX hXl hXs htk hwi hlt hp2
        go_wp2_with (fail)
        with_reducible refine (HW.out _).mono ?_
        rintro e w4 ⟨rfl, hb⟩
        have B4 := Lib.hid (hbw.out.trans (hb.mono hbw.out.size))
        clear hb
        go_wp2_with (fail)
        go_roundg (U.length - (k + 1))
        case measure => have := hg.out; have := HP.out.2; omega
        case rel => exact ⟨k + 1, (by show _ = _; have := hg.out; have := HP.out.2; omega), by go_num, HP.out.1, B4.out⟩
    · exfalso
      have h1 := hpre.out [0] (by rw [List.take_of_length_le (by omega)]; exact HH.out.2.1)
      rw [within_root HH.out.2.2.2.2.1] at h1
      cases h1
end Go.Proofs.Ytjhhhkhcnohmiaa
