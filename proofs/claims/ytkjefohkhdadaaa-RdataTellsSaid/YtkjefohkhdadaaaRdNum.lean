/- The walks of package rdata's Addr, Least, Texts. Conditions: none. -/
import Derived.Test.YtkjefohkhdadaaaRdRead
namespace Go.Proofs.Ytkjefohkhdadaaa
open Go.RowKit Go.Lib

def addrN (l : Bs) : Int × Int := if okD 1 l = true then ((beN l : Int), 0) else (0, 2)
def leastN (l : Bs) : Int × Int := if okD 6 l = true then ((beN (l.drop (l.length - 4)) : Int), 0) else (0, 2)
theorem okD_len4 {l : Bs} (h : okD 1 l = true) : l.length = 4 := by
  unfold okD at h
  rw [if_pos rfl] at h
  simp at h
  exact h.2
theorem okD_soa {l : Bs} (h : okD 6 l = true) : 4 ≤ l.length ∧ l.length ≤ 4096 := by
  unfold okD at h
  rw [if_neg (by decide), if_neg (by decide), if_neg (by decide), Bool.and_eq_true] at h
  have hf : formN 6 = some (0, 2, 5) := rfl
  rw [hf] at h
  obtain ⟨h1, h2⟩ := h
  dsimp only at h2
  cases hq : cutN (0, 2, 5) l with
  | none => rw [hq] at h2; cases h2
  | some p =>
    have := cutN_len hq
    have h3 := congrArg List.length this.1
    simp only [List.length_append] at h3
    have h4 := this.2.2.2.1
    dsimp only at h4
    exact ⟨by omega, by simpa using h1⟩
theorem chk_ok {t : Int} {l : Bs} (h : okD t l = true) : chkD t l = 0 := by unfold chkD; rw [if_pos h]
theorem chk_no {t : Int} {l : Bs} (h : okD t l = false) : chkD t l = 2 := by unfold chkD; rw [if_neg (by rw [h]; decide)]

set_option maxRecDepth 100000 in
set_option maxHeartbeats 2000000 in
theorem addr_any (s : ByteArray) (hs : s.size ≤ 140737488355328) (w : World) : Calls Try.prog 49 #[.string s] w fun e w' => e = .returned (.tuple #[.int .u32 (addrN s.data.toList).1, .int .i64 (addrN s.data.toList).2]) ∧ Below w.heap.size w w' := by
  have HCK := Lib.hid (rdCheck_any 1 s hs w)
  unfold addrN
  cases hok : okD 1 s.data.toList with
  | false =>
    rw [chk_no hok] at HCK
    rw [if_neg (by decide)]
    clear hok hs
    go_enter Try.func49, Try.ntmps49
    go_wp2_with (fail)
    with_reducible refine HCK.out.mono ?_
    rintro e w1 ⟨rfl, hb⟩
    have HB := Lib.hid hb
    clear hb
    go_wp2_with (fail)
    go_ret2
    exact ⟨rfl, HB.out⟩
  | true =>
    rw [chk_ok hok] at HCK
    rw [if_pos rfl]
    have h4 := okD_len4 hok
    have hs4 : s.size = 4 := by have : s.data.toList.length = s.size := by simp
                                omega
    have hext : (s.extract 0 (0 + 4)).data.toList = s.data.toList := by
      have := take_byte s 0 4 (by omega)
      rw [List.drop_zero, List.take_of_length_le (by omega)] at this
      exact this
    obtain ⟨N, hN⟩ : ∃ N, beN s.data.toList = N := ⟨_, rfl⟩
    have hNl : N < 4294967296 := by
      have := beN_lt s.data.toList
      rw [hN, h4] at this
      exact this
    have HNU := Lib.hid (fun (W : World) (b : Nat) (h : Rd W b s 0 false) => rNum_yes h 4 (by omega) (by rw [hs4]; decide) (by omega))
    rw [hext, hN] at HNU
    rw [hN]
    have HO := Lib.hid (fun W => rOpen_any s W)
    have hNI : (N : Int) ≤ 4294967295 := by omega
    clear hok hs h4 hs4 hext hN hNl
    go_enter Try.func49, Try.ntmps49
    go_wp2_with (fail)
    with_reducible refine HCK.out.mono ?_
    rintro e w1 ⟨rfl, hb⟩
    have HB := Lib.hid hb
    clear hb HCK
    go_wp2_with (fail)
    with_reducible refine (HO.out _).mono ?_
    rintro e w2 ⟨rfl, hr, hb⟩
    have HX := Lib.hid (And.intro (HNU.out w2 _ hr) (And.intro HB.out.size (HB.out.trans (hb.mono HB.out.size))))
    clear hr hb HO HNU
    go_wp2_with (fail)
    refine HX.out.1.mono ?_
    rintro e w3 ⟨rfl, _, hbt⟩
    have HY := Lib.hid (HX.out.2.2.trans (But.below hbt HX.out.2.1 HX.out.2.2.size))
    clear hbt
    go_wp2_with (fail)
    go_ret2
    exact ⟨rfl, HY.out⟩

set_option maxRecDepth 100000 in
set_option maxHeartbeats 2000000 in
theorem least_any (s : ByteArray) (hs : s.size ≤ 140737488355328) (w : World) : Calls Try.prog 51 #[.string s] w fun e w' => e = .returned (.tuple #[.int .u32 (leastN s.data.toList).1, .int .i64 (leastN s.data.toList).2]) ∧ Below w.heap.size w w' := by
  have HCK := Lib.hid (rdCheck_any 6 s hs w)
  unfold leastN
  cases hok : okD 6 s.data.toList with
  | false =>
    rw [chk_no hok] at HCK
    rw [if_neg (by decide)]
    clear hok hs
    go_enter Try.func51, Try.ntmps51
    go_wp2_with (fail)
    with_reducible refine HCK.out.mono ?_
    rintro e w1 ⟨rfl, hb⟩
    have HB := Lib.hid hb
    clear hb
    go_wp2_with (fail)
    go_ret2
    exact ⟨rfl, HB.out⟩
  | true =>
    rw [chk_ok hok] at HCK
    rw [if_pos rfl]
    have h4 := okD_soa hok
    have hsl : s.data.toList.length = s.size := by simp
    obtain ⟨_, S, _, hSd, _, hsl2⟩ := split_at s (s.size - 4) (by omega)
    have hcast : ((s.size - 4 : Nat) : Int) = (s.size : Int) - 4 := by omega
    rw [hcast] at hsl2
    have hS4 : S.data.toList.length = 4 := by rw [hSd, List.length_drop]; omega
    have hSs : S.size = 4 := by have : S.data.toList.length = S.size := by simp
                                omega
    have hext : (S.extract 0 (0 + 4)).data.toList = S.data.toList := by
      have := take_byte S 0 4 (by omega)
      rw [List.drop_zero, List.take_of_length_le (by omega)] at this
      exact this
    rw [hsl, ← hSd]
    obtain ⟨N, hN⟩ : ∃ N, beN S.data.toList = N := ⟨_, rfl⟩
    have hNl : N < 4294967296 := by
      have := beN_lt S.data.toList
      rw [hN, hS4] at this
      exact this
    have HNU := Lib.hid (fun (W : World) (b : Nat) (h : Rd W b S 0 false) => rNum_yes h 4 (by omega) (by rw [hSs]; decide) (by omega))
    rw [hext, hN] at HNU
    rw [hN]
    have HO := Lib.hid (fun W => rOpen_any S W)
    have hNI : (N : Int) ≤ 4294967295 := by omega
    have hsI : (4 : Int) ≤ (s.size : Int) := by omega
    have hsI2 : (s.size : Int) ≤ 4096 := by omega
    clear hok hs h4 hext hN hNl hsl hSd hcast hS4 hSs
    go_enter Try.func51, Try.ntmps51
    go_wp2_with (fail)
    with_reducible refine HCK.out.mono ?_
    rintro e w1 ⟨rfl, hb⟩
    have HB := Lib.hid hb
    clear hb HCK
    go_wp2_with (fail)
    with_reducible refine (HO.out _).mono ?_
    rintro e w2 ⟨rfl, hr, hb⟩
    have HX := Lib.hid (And.intro (HNU.out w2 _ hr) (And.intro HB.out.size (HB.out.trans (hb.mono HB.out.size))))
    clear hr hb HO HNU
    go_wp2_with (fail)
    refine HX.out.1.mono ?_
    rintro e w3 ⟨rfl, _, hbt⟩
    have HY := Lib.hid (HX.out.2.2.trans (But.below hbt HX.out.2.1 HX.out.2.2.size))
    clear hbt
    go_wp2_with (fail)
    go_ret2
    exact ⟨rfl, HY.out⟩

def TextsPost2 (l : Bs) (w : World) (e : Ending) (w' : World) : Prop :=
  (okD 16 l = false ∧ e = .returned (.tuple #[.slice none 0 0, .int .i64 2]) ∧ Below w.heap.size w w') ∨
  ∃ ts A c, okD 16 l = true ∧ textsN l = some ts ∧ e = .returned (.tuple #[.slice A ts.length c, .int .i64 0]) ∧ Sl w' 1 (.slice A ts.length c) ts.length (strs ts) ∧ (∀ i, (Value.slice A ts.length c).ownBlock = some i → w.heap.size ≤ i) ∧ Below w.heap.size w w'
theorem okD_txt {l : Bs} (h : okD 16 l = true) : l.length ≤ 4096 ∧ ∃ ts, textsN l = some ts := by
  unfold okD at h
  rw [if_neg (by decide), if_neg (by decide), if_pos rfl, Bool.and_eq_true] at h
  exact ⟨by simpa using h.1, Option.isSome_iff_exists.1 h.2⟩
set_option maxRecDepth 100000 in
set_option maxHeartbeats 2000000 in
theorem rdTexts_any (s : ByteArray) (hs : s.size ≤ 140737488355328) (w : World) : Calls Try.prog 53 #[.string s] w (TextsPost2 s.data.toList w) := by
  have HCK := Lib.hid (rdCheck_any 16 s hs w)
  have hsl : s.data.toList.length = s.size := by simp
  cases hok : okD 16 s.data.toList with
  | false =>
    rw [chk_no hok] at HCK
    have HE := Lib.hid hok
    clear hok hs hsl
    go_enter Try.func53, Try.ntmps53
    go_wp2_with (fail)
    with_reducible refine HCK.out.mono ?_
    rintro e w1 ⟨rfl, hb⟩
    have HB := Lib.hid hb
    clear hb
    go_wp2_with (fail)
    go_ret2
    exact .inl ⟨HE.out, rfl, HB.out⟩
  | true =>
    rw [chk_ok hok] at HCK
    have h4 := okD_txt hok
    have HT := Lib.hid (fun W => texts_any s (by omega) W)
    have HE := Lib.hid (And.intro hok h4.2)
    clear hok hs hsl h4
    go_enter Try.func53, Try.ntmps53
    go_wp2_with (fail)
    with_reducible refine HCK.out.mono ?_
    rintro e w1 ⟨rfl, hb⟩
    have HB := Lib.hid hb
    clear hb HCK
    go_wp2_with (fail)
    with_reducible refine (HT.out _).mono ?_
    rintro e w2 hp
    obtain ⟨ts, A, c, hq, rfl, hS, hO, hb⟩ : ∃ ts A c, textsN s.data.toList = some ts ∧ e = .returned (.tuple #[.slice A ts.length c, .bool true]) ∧ Sl w2 1 (.slice A ts.length c) ts.length (strs ts) ∧ (∀ i, (Value.slice A ts.length c).ownBlock = some i → w1.heap.size ≤ i) ∧ Below w1.heap.size w1 w2 := by
      rcases hp with ⟨hq, _⟩ | h
      · obtain ⟨ts, ht⟩ := HE.out.2
        rw [hq] at ht; cases ht
      · exact h
    have HX := Lib.hid (And.intro hq (And.intro hS (And.intro hO hb)))
    clear hp hq hS hO hb HT
    go_wp2_with (fail)
    go_ret2
    exact .inr ⟨ts, A, c, HE.out.1, HX.out.1, rfl, HX.out.2.1, (fun i hi => Nat.le_trans HB.out.size (HX.out.2.2.1 i hi)), HB.out.trans (HX.out.2.2.2.mono HB.out.size)⟩
end Go.Proofs.Ytkjefohkhdadaaa
