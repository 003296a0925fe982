/- The law GiveOwn, walked. -/
import Derived.Test.YtcphcgkbjlgkiaaGiveBack
import Derived.Test.YtcphcgkbjlgkiaaKeyedTells
import Derived.Test.YtcphcgkbjlgkiaaKeyedApartL
import Derived.Test.YtcphcgkbjlgkiaaTabApart
namespace Go.Proofs.Ytcphcgkbjlgkiaa
open Go.RowKit

/-! Plain -/
theorem bytes_zero : bytesL 0 8 = [0, 0, 0, 0, 0, 0, 0, 0] := by decide
theorem cook_head {i : Bool} {xs : List Entry} {k : ByteArray} {c : List UInt8} {a t : Nat} (h : cookE k c a t = 0) : (cookL i xs k c a t).take 8 = headL t := by
  rw [cookL_yes h, ← headL_length t, List.take_left]
theorem cook_tail {i : Bool} {xs : List Entry} {k : ByteArray} {c : List UInt8} {a t : Nat} (h : cookE k c a t = 0) : (cookL i xs k c a t).drop 8 = bytesL (cookN i xs k c a t).toNat 8 := by
  rw [cookL_yes h, ← headL_length t, List.drop_left]
theorem cook_known {xs : List Entry} {k : ByteArray} {c s : List UInt8} {a : Nat} (hap : Ap xs) (h : cookE k c a (stampN s) = 0) (he : cookL true xs k c a (stampN s) = s) (hz : s.drop 8 ≠ [0, 0, 0, 0, 0, 0, 0, 0]) :
    xs.any (Entry.is k (gtext c (s.take 8) a)) = true := by
  have h1 : s.take 8 = headL (stampN s) := by
    have := cook_head (i := true) (xs := xs) h
    rw [he] at this
    exact this
  have h2 : s.drop 8 = bytesL (cookN true xs k c a (stampN s)).toNat 8 := by
    have := cook_tail (i := true) (xs := xs) h
    rw [he] at this
    exact this
  rw [h1, ← ap_found hap]
  have hN : cookN true xs k c a (stampN s) = findN (Entry.is k (gtext c (headL (stampN s)) a)) xs := by
    unfold cookN ofN
    exact if_pos ⟨h, rfl⟩
  rw [← hN, bne_iff_ne]
  intro h0
  rw [h0] at h2
  exact hz (h2.trans bytes_zero)
theorem ver_own {xs : List Entry} {sn sw : ByteArray} {c s : List UInt8} {a : Nat} {now : Int} (hap : Ap xs) (h : (verR true xs sn sw c s a now).2 = 0) :
    s.length = 16 ∧ (s.drop 8 ≠ [0, 0, 0, 0, 0, 0, 0, 0] → xs.any (Entry.is sn (gtext c (s.take 8) a)) = true ∨ xs.any (Entry.is sw (gtext c (s.take 8) a)) = true) := by
  unfold verR at h
  by_cases h1 : c.length ≠ 8
  · rw [if_pos h1] at h; cases h
  rw [if_neg h1] at h
  by_cases h2 : s = []
  · rw [if_pos h2] at h; cases h
  rw [if_neg h2] at h
  by_cases h3 : s.length ≠ 16 ∨ s.take 4 ≠ [1, 0, 0, 0]
  · rw [if_pos h3] at h; cases h
  rw [if_neg h3] at h
  have h16 : s.length = 16 := Classical.not_not.1 (fun e => h3 (.inl e))
  refine ⟨h16, fun hz => ?_⟩
  by_cases h4 : freshN now (stampN s) ≠ 0
  · rw [if_pos h4] at h; cases h
  rw [if_neg h4] at h
  by_cases h5 : cookE sn c a (stampN s) = 0 ∧ cookL true xs sn c a (stampN s) = s
  · exact .inl (cook_known hap h5.1 h5.2 hz)
  rw [if_neg h5] at h
  by_cases h6 : cookE sw c a (stampN s) = 0 ∧ cookL true xs sw c a (stampN s) = s
  · exact .inr (cook_known hap h6.1 h6.2 hz)
  rw [if_neg h6] at h
  cases h

/-! The walk -/
def SO (w : World) (i : Bool) (A : Option Addr) (n m : Nat) (xs : List Entry) (sn sw : ByteArray) (W : World) : Prop :=
  Blk W w.heap.size 27 #[.bool i, .slice A n m] ∧ Blk W (w.heap.size + 1) 59 #[.string sn, .string sw] ∧ Below w.heap.size w W ∧ Tab W A xs
section
variable {w W W' : World} {i : Bool} {A : Option Addr} {n m : Nat} {xs : List Entry} {sn sw : ByteArray}
theorem SO.next (h : SO w i A n m xs sn sw W) (hb : Below W.heap.size W W') : SO w i A n m xs sn sw W' :=
  ⟨h.1.below hb h.1.lt, h.2.1.below hb h.2.1.lt, h.2.2.1.trans (hb.mono h.2.2.1.size), h.2.2.2.below hb⟩
theorem SO.tab (h : SO w i A n m xs sn sw W) : Tab W A xs := h.2.2.2
theorem SO.start (i : Bool) (A : Option Addr) (n m : Nat) (sn sw : ByteArray) (hT : Tab w A xs) :
    SO w i A n m xs sn sw ((w.alloc (.cells #[.bool i, .slice A n m] 27)).alloc (.cells #[.string sn, .string sw] 59)) := by
  have hb := box2_below w (.cells #[.bool i, .slice A n m] 27) (.cells #[.string sn, .string sw] 59)
  refine ⟨(Blk.new w _ _).alloc _, ?_, hb, hT.below hb⟩
  have := Blk.new (w.alloc (.cells #[.bool i, .slice A n m] 27)) 59 #[.string sn, .string sw]
  rw [World.size_alloc] at this
  exact this
theorem SO.ideal (h : SO w i A n m xs sn sw W) : SO w true A n m xs sn sw (W.setCell ⟨w.heap.size, 0, none⟩ (.bool true)) := by
  obtain ⟨h1, h2, h3, h4⟩ := h
  refine ⟨h1.set_ 0 _, h2.far (p := ⟨w.heap.size, 0, none⟩) (by show w.heap.size + 1 ≠ w.heap.size; omega) _, h3.setCell (p := ⟨w.heap.size, 0, none⟩) (Nat.le_refl _) _, ?_⟩
  rcases Nat.eq_zero_or_pos xs.length with h0 | hp
  · rw [List.eq_nil_of_length_eq_zero h0]; exact tab_nil _ _
  · obtain ⟨b', off, rfl, _, _⟩ := h4.2 hp
    exact h4.far (fun e => tab_apart h1 h4 hp e.symm) _
end

set_option maxRecDepth 100000 in
set_option maxHeartbeats 2000000 in
theorem giveOwn_out (i : Bool) (xs : List Entry) (A : Option Addr) (m : Nat) (sn sw c s : ByteArray) (a : Nat) (now : Int) (hbig : xs.length ≤ 9223372036854775807) (hc : c.size ≤ 9223372036854775807) (w : World) (hT : Tab w A xs)
    (h : 60 < xs.length ∨ (xs.length ≤ 60 ∧ 1000 < c.size) ∨ (xs.length ≤ 60 ∧ c.size ≤ 1000 ∧ ¬ Ap xs)) :
    Calls Try.prog 9 #[.agg #[.bool i, .slice A xs.length m], .agg #[.string sn, .string sw], .string c, .string s, .int .u32 (a : Int), .int .i64 now] w fun e w' => e = .returned (.bool true) ∧ Below w.heap.size w w' := by
  have S0 := Lib.hid (SO.start i A xs.length m sn sw hT)
  have hS := fun W => small_any i xs A m W hbig
  have hcase : ∃ v : Int, Hid (∀ W, Calls Try.prog 20 #[.agg #[.bool i, .slice A xs.length m]] W fun e w' => e = .returned (.int .i64 v) ∧ Below W.heap.size W w') ∧
      (v = 0 ∨ (v = 1 ∧ (1000 : Int) < (c.size : Int)) ∨ (v = 1 ∧ ¬ (1000 : Int) < (c.size : Int) ∧ ¬ Ap xs)) := by
    refine ⟨_, Lib.hid hS, ?_⟩
    rcases h with h | ⟨h, h2⟩ | ⟨h, h2, h3⟩
    · rw [if_pos h]; exact .inl rfl
    · rw [if_neg (by omega)]; exact .inr (.inl ⟨rfl, by omega⟩)
    · rw [if_neg (by omega)]; exact .inr (.inr ⟨rfl, by omega, h3⟩)
  obtain ⟨v, HS, hcase⟩ := hcase
  have HAp := Lib.hid (fun (h : ¬ Ap xs) W hT => apart_is (v := false) (.inr ⟨rfl, h⟩) i A m W hT hbig)
  clear hS h hT hbig
  rcases hcase with rfl | ⟨rfl, h1⟩ | ⟨rfl, h1, h2⟩
  · go_enter Try.func9, Try.ntmps9
    go_wp2_with (fail)
    with_reducible refine (lives12 _).mono ?_
    rintro e w1 ⟨rfl, hb⟩
    have S1 := Lib.hid (S0.out.next hb)
    have c0 : w1.cell? ⟨w.heap.size, 0, none⟩ = some (.bool i) := S1.out.1.cell 0
    have c1 : w1.cell? ⟨w.heap.size, 1, none⟩ = some (.slice A xs.length m) := S1.out.1.cell 1
    have d0 : w1.cell? ⟨w.heap.size + 1, 0, none⟩ = some (.string sn) := S1.out.2.1.cell 0
    have d1 : w1.cell? ⟨w.heap.size + 1, 1, none⟩ = some (.string sw) := S1.out.2.1.cell 1
    clear hb
    go_wp2_with (fail)
    with_reducible refine (HS.out _).mono ?_
    rintro e w2 ⟨rfl, hb⟩
    have S2 := Lib.hid (S1.out.next hb)
    have c0 : w2.cell? ⟨w.heap.size, 0, none⟩ = some (.bool i) := S2.out.1.cell 0
    have c1 : w2.cell? ⟨w.heap.size, 1, none⟩ = some (.slice A xs.length m) := S2.out.1.cell 1
    have d0 : w2.cell? ⟨w.heap.size + 1, 0, none⟩ = some (.string sn) := S2.out.2.1.cell 0
    have d1 : w2.cell? ⟨w.heap.size + 1, 1, none⟩ = some (.string sw) := S2.out.2.1.cell 1
    clear hb
    go_wp2_with (fail)
    go_ret
    exact ⟨rfl, S2.out.2.2.1⟩
  · go_enter Try.func9, Try.ntmps9
    go_wp2_with (fail)
    with_reducible refine (lives12 _).mono ?_
    rintro e w1 ⟨rfl, hb⟩
    have S1 := Lib.hid (S0.out.next hb)
    have c0 : w1.cell? ⟨w.heap.size, 0, none⟩ = some (.bool i) := S1.out.1.cell 0
    have c1 : w1.cell? ⟨w.heap.size, 1, none⟩ = some (.slice A xs.length m) := S1.out.1.cell 1
    have d0 : w1.cell? ⟨w.heap.size + 1, 0, none⟩ = some (.string sn) := S1.out.2.1.cell 0
    have d1 : w1.cell? ⟨w.heap.size + 1, 1, none⟩ = some (.string sw) := S1.out.2.1.cell 1
    clear hb
    go_wp2_with (fail)
    with_reducible refine (HS.out _).mono ?_
    rintro e w2 ⟨rfl, hb⟩
    have S2 := Lib.hid (S1.out.next hb)
    have c0 : w2.cell? ⟨w.heap.size, 0, none⟩ = some (.bool i) := S2.out.1.cell 0
    have c1 : w2.cell? ⟨w.heap.size, 1, none⟩ = some (.slice A xs.length m) := S2.out.1.cell 1
    have d0 : w2.cell? ⟨w.heap.size + 1, 0, none⟩ = some (.string sn) := S2.out.2.1.cell 0
    have d1 : w2.cell? ⟨w.heap.size + 1, 1, none⟩ = some (.string sw) := S2.out.2.1.cell 1
    clear hb
    go_wp2_with (fail)
    go_ret
    exact ⟨rfl, S2.out.2.2.1⟩
  · have HA := Lib.hid (HAp.out h2)
    clear h2 HAp
    go_enter Try.func9, Try.ntmps9
    go_wp2_with (fail)
    with_reducible refine (lives12 _).mono ?_
    rintro e w1 ⟨rfl, hb⟩
    have S1 := Lib.hid (S0.out.next hb)
    have c0 : w1.cell? ⟨w.heap.size, 0, none⟩ = some (.bool i) := S1.out.1.cell 0
    have c1 : w1.cell? ⟨w.heap.size, 1, none⟩ = some (.slice A xs.length m) := S1.out.1.cell 1
    have d0 : w1.cell? ⟨w.heap.size + 1, 0, none⟩ = some (.string sn) := S1.out.2.1.cell 0
    have d1 : w1.cell? ⟨w.heap.size + 1, 1, none⟩ = some (.string sw) := S1.out.2.1.cell 1
    clear hb
    go_wp2_with (fail)
    with_reducible refine (HS.out _).mono ?_
    rintro e w2 ⟨rfl, hb⟩
    have S2 := Lib.hid (S1.out.next hb)
    have c0 : w2.cell? ⟨w.heap.size, 0, none⟩ = some (.bool i) := S2.out.1.cell 0
    have c1 : w2.cell? ⟨w.heap.size, 1, none⟩ = some (.slice A xs.length m) := S2.out.1.cell 1
    have d0 : w2.cell? ⟨w.heap.size + 1, 0, none⟩ = some (.string sn) := S2.out.2.1.cell 0
    have d1 : w2.cell? ⟨w.heap.size + 1, 1, none⟩ = some (.string sw) := S2.out.2.1.cell 1
    clear hb
    go_wp2_with (fail)
    with_reducible refine (HA.out _ S2.out.tab).mono ?_
    rintro e w3 ⟨rfl, hb⟩
    have S3 := Lib.hid (S2.out.next hb)
    have c0 : w3.cell? ⟨w.heap.size, 0, none⟩ = some (.bool i) := S3.out.1.cell 0
    have c1 : w3.cell? ⟨w.heap.size, 1, none⟩ = some (.slice A xs.length m) := S3.out.1.cell 1
    have d0 : w3.cell? ⟨w.heap.size + 1, 0, none⟩ = some (.string sn) := S3.out.2.1.cell 0
    have d1 : w3.cell? ⟨w.heap.size + 1, 1, none⟩ = some (.string sw) := S3.out.2.1.cell 1
    clear hb
    go_wp2_with (fail)
    go_ret
    exact ⟨rfl, S3.out.2.2.1⟩

set_option maxRecDepth 100000 in
set_option maxHeartbeats 4000000 in
theorem giveOwn_main (i : Bool) (xs : List Entry) (A : Option Addr) (m : Nat) (sn sw c s : ByteArray) (a : Nat) (now : Int) (hx : xs.length ≤ 60) (hc : c.size ≤ 1000) (hs : s.size ≤ maxLen) (ha : a < 4294967296) (hap : Ap xs) (w : World) (hT : Tab w A xs)
    (b : Bool) (r : Int) (hV : ∀ W, Tab W A xs → Calls Try.prog 35 #[.agg #[.bool true, .slice A xs.length m], .agg #[.string sn, .string sw], .string c, .string s, .int .u32 (a : Int), .int .i64 now] W fun e w' => e = .returned (.tuple #[.bool b, .int .i64 r]) ∧ Below W.heap.size W w')
    (hr : r = 0 → s.data.toList.length = 16 ∧ (s.data.toList.drop 8 ≠ [0, 0, 0, 0, 0, 0, 0, 0] → xs.any (Entry.is sn (gtext c.data.toList (s.data.toList.take 8) a)) = true ∨ xs.any (Entry.is sw (gtext c.data.toList (s.data.toList.take 8) a)) = true)) :
    Calls Try.prog 9 #[.agg #[.bool i, .slice A xs.length m], .agg #[.string sn, .string sw], .string c, .string s, .int .u32 (a : Int), .int .i64 now] w fun e w' => e = .returned (.bool true) ∧ Below w.heap.size w w' := by
  have hbig : xs.length ≤ 9223372036854775807 := by omega
  have S0 := Lib.hid (SO.start i A xs.length m sn sw hT)
  have hS := fun W => small_any i xs A m W hbig
  simp only [if_neg (show ¬ 60 < xs.length by omega)] at hS
  have HS := Lib.hid hS
  have h1 : ¬ (1000 : Int) < (c.size : Int) := by omega
  have HA := Lib.hid (fun W hT => apart_is (v := true) (.inl ⟨rfl, hap⟩) i A m W hT hbig)
  have HV := Lib.hid hV
  clear hS hV hap hT
  by_cases h0 : r = 0
  · subst h0
    obtain ⟨h16, hkn⟩ := hr rfl
    have h16' : s.size = 16 := by simpa using h16
    have hp8 : (s.extract 0 8).data.toList = s.data.toList.take 8 := by rw [extract_list s 0 8 (by omega)]; rfl
    have hp9 : (s.extract 8 s.size).data.toList = s.data.toList.drop 8 := by
      rw [extract_list s 8 s.size (by omega)]
      exact List.take_of_length_le (by rw [List.length_drop, h16]; omega)
    have hs8 : (s.extract 0 8).size = 8 := by simp; omega
    have HT := Lib.hid (fun W => gText_any c (s.extract 0 8) a ha (by rw [hs8]; omega) W)
    rw [hp8] at HT
    have HK1 := Lib.hid (fun W hT => known_any true xs A m sn (gtext c.data.toList (s.data.toList.take 8) a) W hT hbig)
    have HK2 := Lib.hid (fun W hT => known_any true xs A m sw (gtext c.data.toList (s.data.toList.take 8) a) W hT hbig)
    generalize gtext c.data.toList (s.data.toList.take 8) a = t at HT HK1 HK2 hkn
    generalize hk1 : xs.any (Entry.is sn t) = k1 at HK1 hkn
    generalize hk2 : xs.any (Entry.is sw t) = k2 at HK2 hkn
    have hsz : s.size ≤ 16 := by omega
    have hsz8 : 8 ≤ s.size := by omega
    have hsi : (s.size : Int) ≤ 16 := by omega
    have hsi8 : (8 : Int) ≤ (s.size : Int) := by omega
    have hz : ((s.extract 8 s.size).toList == [0, 0, 0, 0, 0, 0, 0, 0]) = true ∨ (((s.extract 8 s.size).toList == [0, 0, 0, 0, 0, 0, 0, 0]) = false ∧ (k1 = true ∨ (k1 = false ∧ k2 = true))) := by
      by_cases e : s.data.toList.drop 8 = [0, 0, 0, 0, 0, 0, 0, 0]
      · left; rw [ByteArray.toList_eq, hp9, e]; rfl
      · right
        refine ⟨by rw [ByteArray.toList_eq, hp9]; simpa using e, ?_⟩
        rcases hkn e with h | h
        · exact .inl h
        · cases k1
          · exact .inr ⟨rfl, h⟩
          · exact .inl rfl
    clear hkn h16 h16' hp8 hp9 hs8 hk1 hk2 hr hx hc hs ha hbig
    rcases hz with hz | ⟨hz, rfl | ⟨rfl, rfl⟩⟩
    · go_enter Try.func9, Try.ntmps9
      go_wp2_with (fail)
      with_reducible refine (lives12 _).mono ?_
      rintro e w1 ⟨rfl, hb⟩
      have S1 := Lib.hid (S0.out.next hb)
      have c0 : w1.cell? ⟨w.heap.size, 0, none⟩ = some (.bool i) := S1.out.1.cell 0
      have c1 : w1.cell? ⟨w.heap.size, 1, none⟩ = some (.slice A xs.length m) := S1.out.1.cell 1
      have d0 : w1.cell? ⟨w.heap.size + 1, 0, none⟩ = some (.string sn) := S1.out.2.1.cell 0
      have d1 : w1.cell? ⟨w.heap.size + 1, 1, none⟩ = some (.string sw) := S1.out.2.1.cell 1
      clear hb
      go_wp2_with (fail)
      with_reducible refine (HS.out _).mono ?_
      rintro e w2 ⟨rfl, hb⟩
      have S2 := Lib.hid (S1.out.next hb)
      have c0 : w2.cell? ⟨w.heap.size, 0, none⟩ = some (.bool i) := S2.out.1.cell 0
      have c1 : w2.cell? ⟨w.heap.size, 1, none⟩ = some (.slice A xs.length m) := S2.out.1.cell 1
      have d0 : w2.cell? ⟨w.heap.size + 1, 0, none⟩ = some (.string sn) := S2.out.2.1.cell 0
      have d1 : w2.cell? ⟨w.heap.size + 1, 1, none⟩ = some (.string sw) := S2.out.2.1.cell 1
      clear hb
      go_wp2_with (fail)
      with_reducible refine (HA.out _ S2.out.tab).mono ?_
      rintro e w3 ⟨rfl, hb⟩
      have S3 := Lib.hid (S2.out.next hb)
      have c0 : w3.cell? ⟨w.heap.size, 0, none⟩ = some (.bool i) := S3.out.1.cell 0
      have c1 : w3.cell? ⟨w.heap.size, 1, none⟩ = some (.slice A xs.length m) := S3.out.1.cell 1
      have d0 : w3.cell? ⟨w.heap.size + 1, 0, none⟩ = some (.string sn) := S3.out.2.1.cell 0
      have d1 : w3.cell? ⟨w.heap.size + 1, 1, none⟩ = some (.string sw) := S3.out.2.1.cell 1
      clear hb
      have f0 := S3.out.1.frozen 0
      go_wp2_with (fail)
      have S3a := Lib.hid S3.out.ideal
      with_reducible refine (HV.out _ S3a.out.tab).mono ?_
      rintro e w4 ⟨rfl, hb⟩
      have S4 := Lib.hid (S3a.out.next hb)
      have c0 : w4.cell? ⟨w.heap.size, 0, none⟩ = some (.bool true) := S4.out.1.cell 0
      have c1 : w4.cell? ⟨w.heap.size, 1, none⟩ = some (.slice A xs.length m) := S4.out.1.cell 1
      have d0 : w4.cell? ⟨w.heap.size + 1, 0, none⟩ = some (.string sn) := S4.out.2.1.cell 0
      have d1 : w4.cell? ⟨w.heap.size + 1, 1, none⟩ = some (.string sw) := S4.out.2.1.cell 1
      clear hb
      go_wp2_with (fail)
      go_ret
      exact ⟨rfl, S4.out.2.2.1⟩
    · go_enter Try.func9, Try.ntmps9
      go_wp2_with (fail)
      with_reducible refine (lives12 _).mono ?_
      rintro e w1 ⟨rfl, hb⟩
      have S1 := Lib.hid (S0.out.next hb)
      have c0 : w1.cell? ⟨w.heap.size, 0, none⟩ = some (.bool i) := S1.out.1.cell 0
      have c1 : w1.cell? ⟨w.heap.size, 1, none⟩ = some (.slice A xs.length m) := S1.out.1.cell 1
      have d0 : w1.cell? ⟨w.heap.size + 1, 0, none⟩ = some (.string sn) := S1.out.2.1.cell 0
      have d1 : w1.cell? ⟨w.heap.size + 1, 1, none⟩ = some (.string sw) := S1.out.2.1.cell 1
      clear hb
      go_wp2_with (fail)
      with_reducible refine (HS.out _).mono ?_
      rintro e w2 ⟨rfl, hb⟩
      have S2 := Lib.hid (S1.out.next hb)
      have c0 : w2.cell? ⟨w.heap.size, 0, none⟩ = some (.bool i) := S2.out.1.cell 0
      have c1 : w2.cell? ⟨w.heap.size, 1, none⟩ = some (.slice A xs.length m) := S2.out.1.cell 1
      have d0 : w2.cell? ⟨w.heap.size + 1, 0, none⟩ = some (.string sn) := S2.out.2.1.cell 0
      have d1 : w2.cell? ⟨w.heap.size + 1, 1, none⟩ = some (.string sw) := S2.out.2.1.cell 1
      clear hb
      go_wp2_with (fail)
      with_reducible refine (HA.out _ S2.out.tab).mono ?_
      rintro e w3 ⟨rfl, hb⟩
      have S3 := Lib.hid (S2.out.next hb)
      have c0 : w3.cell? ⟨w.heap.size, 0, none⟩ = some (.bool i) := S3.out.1.cell 0
      have c1 : w3.cell? ⟨w.heap.size, 1, none⟩ = some (.slice A xs.length m) := S3.out.1.cell 1
      have d0 : w3.cell? ⟨w.heap.size + 1, 0, none⟩ = some (.string sn) := S3.out.2.1.cell 0
      have d1 : w3.cell? ⟨w.heap.size + 1, 1, none⟩ = some (.string sw) := S3.out.2.1.cell 1
      clear hb
      have f0 := S3.out.1.frozen 0
      go_wp2_with (fail)
      have S3a := Lib.hid S3.out.ideal
      with_reducible refine (HV.out _ S3a.out.tab).mono ?_
      rintro e w4 ⟨rfl, hb⟩
      have S4 := Lib.hid (S3a.out.next hb)
      have c0 : w4.cell? ⟨w.heap.size, 0, none⟩ = some (.bool true) := S4.out.1.cell 0
      have c1 : w4.cell? ⟨w.heap.size, 1, none⟩ = some (.slice A xs.length m) := S4.out.1.cell 1
      have d0 : w4.cell? ⟨w.heap.size + 1, 0, none⟩ = some (.string sn) := S4.out.2.1.cell 0
      have d1 : w4.cell? ⟨w.heap.size + 1, 1, none⟩ = some (.string sw) := S4.out.2.1.cell 1
      clear hb
      go_wp2_with (fail)
      with_reducible refine (HT.out _).mono ?_
      rintro e w5 ⟨rfl, hb⟩
      have S5 := Lib.hid (S4.out.next hb)
      have c0 : w5.cell? ⟨w.heap.size, 0, none⟩ = some (.bool true) := S5.out.1.cell 0
      have c1 : w5.cell? ⟨w.heap.size, 1, none⟩ = some (.slice A xs.length m) := S5.out.1.cell 1
      have d0 : w5.cell? ⟨w.heap.size + 1, 0, none⟩ = some (.string sn) := S5.out.2.1.cell 0
      have d1 : w5.cell? ⟨w.heap.size + 1, 1, none⟩ = some (.string sw) := S5.out.2.1.cell 1
      clear hb
      go_wp2_with (fail)
      with_reducible refine (HK1.out _ S5.out.tab).mono ?_
      rintro e w6 ⟨rfl, hb⟩
      have S6 := Lib.hid (S5.out.next hb)
      have c0 : w6.cell? ⟨w.heap.size, 0, none⟩ = some (.bool true) := S6.out.1.cell 0
      have c1 : w6.cell? ⟨w.heap.size, 1, none⟩ = some (.slice A xs.length m) := S6.out.1.cell 1
      have d0 : w6.cell? ⟨w.heap.size + 1, 0, none⟩ = some (.string sn) := S6.out.2.1.cell 0
      have d1 : w6.cell? ⟨w.heap.size + 1, 1, none⟩ = some (.string sw) := S6.out.2.1.cell 1
      clear hb
      go_wp2_with (fail)
      go_ret
      exact ⟨rfl, S6.out.2.2.1⟩
    · go_enter Try.func9, Try.ntmps9
      go_wp2_with (fail)
      with_reducible refine (lives12 _).mono ?_
      rintro e w1 ⟨rfl, hb⟩
      have S1 := Lib.hid (S0.out.next hb)
      have c0 : w1.cell? ⟨w.heap.size, 0, none⟩ = some (.bool i) := S1.out.1.cell 0
      have c1 : w1.cell? ⟨w.heap.size, 1, none⟩ = some (.slice A xs.length m) := S1.out.1.cell 1
      have d0 : w1.cell? ⟨w.heap.size + 1, 0, none⟩ = some (.string sn) := S1.out.2.1.cell 0
      have d1 : w1.cell? ⟨w.heap.size + 1, 1, none⟩ = some (.string sw) := S1.out.2.1.cell 1
      clear hb
      go_wp2_with (fail)
      with_reducible refine (HS.out _).mono ?_
      rintro e w2 ⟨rfl, hb⟩
      have S2 := Lib.hid (S1.out.next hb)
      have c0 : w2.cell? ⟨w.heap.size, 0, none⟩ = some (.bool i) := S2.out.1.cell 0
      have c1 : w2.cell? ⟨w.heap.size, 1, none⟩ = some (.slice A xs.length m) := S2.out.1.cell 1
      have d0 : w2.cell? ⟨w.heap.size + 1, 0, none⟩ = some (.string sn) := S2.out.2.1.cell 0
      have d1 : w2.cell? ⟨w.heap.size + 1, 1, none⟩ = some (.string sw) := S2.out.2.1.cell 1
      clear hb
      go_wp2_with (fail)
      with_reducible refine (HA.out _ S2.out.tab).mono ?_
      rintro e w3 ⟨rfl, hb⟩
      have S3 := Lib.hid (S2.out.next hb)
      have c0 : w3.cell? ⟨w.heap.size, 0, none⟩ = some (.bool i) := S3.out.1.cell 0
      have c1 : w3.cell? ⟨w.heap.size, 1, none⟩ = some (.slice A xs.length m) := S3.out.1.cell 1
      have d0 : w3.cell? ⟨w.heap.size + 1, 0, none⟩ = some (.string sn) := S3.out.2.1.cell 0
      have d1 : w3.cell? ⟨w.heap.size + 1, 1, none⟩ = some (.string sw) := S3.out.2.1.cell 1
      clear hb
      have f0 := S3.out.1.frozen 0
      go_wp2_with (fail)
      have S3a := Lib.hid S3.out.ideal
      with_reducible refine (HV.out _ S3a.out.tab).mono ?_
      rintro e w4 ⟨rfl, hb⟩
      have S4 := Lib.hid (S3a.out.next hb)
      have c0 : w4.cell? ⟨w.heap.size, 0, none⟩ = some (.bool true) := S4.out.1.cell 0
      have c1 : w4.cell? ⟨w.heap.size, 1, none⟩ = some (.slice A xs.length m) := S4.out.1.cell 1
      have d0 : w4.cell? ⟨w.heap.size + 1, 0, none⟩ = some (.string sn) := S4.out.2.1.cell 0
      have d1 : w4.cell? ⟨w.heap.size + 1, 1, none⟩ = some (.string sw) := S4.out.2.1.cell 1
      clear hb
      go_wp2_with (fail)
      with_reducible refine (HT.out _).mono ?_
      rintro e w5 ⟨rfl, hb⟩
      have S5 := Lib.hid (S4.out.next hb)
      have c0 : w5.cell? ⟨w.heap.size, 0, none⟩ = some (.bool true) := S5.out.1.cell 0
      have c1 : w5.cell? ⟨w.heap.size, 1, none⟩ = some (.slice A xs.length m) := S5.out.1.cell 1
      have d0 : w5.cell? ⟨w.heap.size + 1, 0, none⟩ = some (.string sn) := S5.out.2.1.cell 0
      have d1 : w5.cell? ⟨w.heap.size + 1, 1, none⟩ = some (.string sw) := S5.out.2.1.cell 1
      clear hb
      go_wp2_with (fail)
      with_reducible refine (HK1.out _ S5.out.tab).mono ?_
      rintro e w6 ⟨rfl, hb⟩
      have S6 := Lib.hid (S5.out.next hb)
      have c0 : w6.cell? ⟨w.heap.size, 0, none⟩ = some (.bool true) := S6.out.1.cell 0
      have c1 : w6.cell? ⟨w.heap.size, 1, none⟩ = some (.slice A xs.length m) := S6.out.1.cell 1
      have d0 : w6.cell? ⟨w.heap.size + 1, 0, none⟩ = some (.string sn) := S6.out.2.1.cell 0
      have d1 : w6.cell? ⟨w.heap.size + 1, 1, none⟩ = some (.string sw) := S6.out.2.1.cell 1
      clear hb
      go_wp2_with (fail)
      with_reducible refine (HK2.out _ S6.out.tab).mono ?_
      rintro e w7 ⟨rfl, hb⟩
      have S7 := Lib.hid (S6.out.next hb)
      have c0 : w7.cell? ⟨w.heap.size, 0, none⟩ = some (.bool true) := S7.out.1.cell 0
      have c1 : w7.cell? ⟨w.heap.size, 1, none⟩ = some (.slice A xs.length m) := S7.out.1.cell 1
      have d0 : w7.cell? ⟨w.heap.size + 1, 0, none⟩ = some (.string sn) := S7.out.2.1.cell 0
      have d1 : w7.cell? ⟨w.heap.size + 1, 1, none⟩ = some (.string sw) := S7.out.2.1.cell 1
      clear hb
      go_wp2_with (fail)
      go_ret
      exact ⟨rfl, S7.out.2.2.1⟩
  · have hne : (r != 0) = true := by simpa using h0
    clear h0 hr hx hc hs ha hbig
    go_enter Try.func9, Try.ntmps9
    go_wp2_with (fail)
    with_reducible refine (lives12 _).mono ?_
    rintro e w1 ⟨rfl, hb⟩
    have S1 := Lib.hid (S0.out.next hb)
    have c0 : w1.cell? ⟨w.heap.size, 0, none⟩ = some (.bool i) := S1.out.1.cell 0
    have c1 : w1.cell? ⟨w.heap.size, 1, none⟩ = some (.slice A xs.length m) := S1.out.1.cell 1
    have d0 : w1.cell? ⟨w.heap.size + 1, 0, none⟩ = some (.string sn) := S1.out.2.1.cell 0
    have d1 : w1.cell? ⟨w.heap.size + 1, 1, none⟩ = some (.string sw) := S1.out.2.1.cell 1
    clear hb
    go_wp2_with (fail)
    with_reducible refine (HS.out _).mono ?_
    rintro e w2 ⟨rfl, hb⟩
    have S2 := Lib.hid (S1.out.next hb)
    have c0 : w2.cell? ⟨w.heap.size, 0, none⟩ = some (.bool i) := S2.out.1.cell 0
    have c1 : w2.cell? ⟨w.heap.size, 1, none⟩ = some (.slice A xs.length m) := S2.out.1.cell 1
    have d0 : w2.cell? ⟨w.heap.size + 1, 0, none⟩ = some (.string sn) := S2.out.2.1.cell 0
    have d1 : w2.cell? ⟨w.heap.size + 1, 1, none⟩ = some (.string sw) := S2.out.2.1.cell 1
    clear hb
    go_wp2_with (fail)
    with_reducible refine (HA.out _ S2.out.tab).mono ?_
    rintro e w3 ⟨rfl, hb⟩
    have S3 := Lib.hid (S2.out.next hb)
    have c0 : w3.cell? ⟨w.heap.size, 0, none⟩ = some (.bool i) := S3.out.1.cell 0
    have c1 : w3.cell? ⟨w.heap.size, 1, none⟩ = some (.slice A xs.length m) := S3.out.1.cell 1
    have d0 : w3.cell? ⟨w.heap.size + 1, 0, none⟩ = some (.string sn) := S3.out.2.1.cell 0
    have d1 : w3.cell? ⟨w.heap.size + 1, 1, none⟩ = some (.string sw) := S3.out.2.1.cell 1
    clear hb
    have f0 := S3.out.1.frozen 0
    go_wp2_with (fail)
    have S3a := Lib.hid S3.out.ideal
    with_reducible refine (HV.out _ S3a.out.tab).mono ?_
    rintro e w4 ⟨rfl, hb⟩
    have S4 := Lib.hid (S3a.out.next hb)
    have c0 : w4.cell? ⟨w.heap.size, 0, none⟩ = some (.bool true) := S4.out.1.cell 0
    have c1 : w4.cell? ⟨w.heap.size, 1, none⟩ = some (.slice A xs.length m) := S4.out.1.cell 1
    have d0 : w4.cell? ⟨w.heap.size + 1, 0, none⟩ = some (.string sn) := S4.out.2.1.cell 0
    have d1 : w4.cell? ⟨w.heap.size + 1, 1, none⟩ = some (.string sw) := S4.out.2.1.cell 1
    clear hb
    go_wp2_with (fail)
    go_ret
    exact ⟨rfl, S4.out.2.2.1⟩

theorem giveOwn_law (w : World) (i : Bool) (A : Option Addr) (xs : List Entry) (m : Nat) (sn sw c s : ByteArray) (a now : Int) (hT : Tab w A xs) (hl : xs.length ≤ m) (hm : m ≤ maxLen) (hsn : sn.size ≤ maxLen) (hsw : sw.size ≤ maxLen) (hc : c.size ≤ maxLen) (hs : s.size ≤ maxLen) (ha : 0 ≤ a ∧ a ≤ 4294967295) (_hnow : -9223372036854775808 ≤ now ∧ now ≤ 9223372036854775807) :
    Calls Try.prog 9 #[.agg #[.bool i, .slice A xs.length m], .agg #[.string sn, .string sw], .string c, .string s, .int .u32 a, .int .i64 now] w fun e w' => e = .returned (.bool true) ∧ Below w.heap.size w w' := by
  obtain ⟨a, rfl⟩ := Int.eq_ofNat_of_zero_le ha.1
  have hbig : xs.length ≤ 9223372036854775807 := by unfold maxLen at hm; omega
  have hcb : c.size ≤ 9223372036854775807 := by unfold maxLen at hc; omega
  by_cases h1 : 60 < xs.length
  · exact giveOwn_out i xs A m sn sw c s a now hbig hcb w hT (.inl h1)
  by_cases h2 : 1000 < c.size
  · exact giveOwn_out i xs A m sn sw c s a now hbig hcb w hT (.inr (.inl ⟨by omega, h2⟩))
  by_cases h3 : Ap xs
  · have hV := fun W hT => Verify_any true xs A m sn sw c s a now hc hs (by omega) hsn hsw W hT hbig
    exact giveOwn_main i xs A m sn sw c s a now (by omega) (by omega) hs (by omega) h3 w hT _ _ hV (fun h => ver_own h3 h)
  · exact giveOwn_out i xs A m sn sw c s a now hbig hcb w hT (.inr (.inr ⟨by omega, by omega, h3⟩))
end Go.Proofs.Ytcphcgkbjlgkiaa
