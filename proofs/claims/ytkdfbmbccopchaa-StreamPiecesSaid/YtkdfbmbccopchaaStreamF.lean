/- The walk of hardtacklaw30.StreamFeeds. -/
import Derived.Test.YtkdfbmbccopchaaStreamL
namespace Go.Proofs.Ytkdfbmbccopchaa
open Go.RowKit Go.Lib

theorem sameTx_any (L : List (List UInt8)) (A B : Option Addr) (c d : Nat) (w : World) (hA : TTab w A (txtV L)) (hB : TTab w B (txtV L)) (hn : L.length ≤ 1000000) :
    Calls Try.prog 43 #[.slice A L.length c, .slice B L.length d] w fun e w' => e = .returned (.bool true) ∧ Below w.heap.size w w' := by
  have e : txtV L = (L.map fun x => (⟨x.toArray⟩ : ByteArray)).map Value.string := by simp [txtV]
  have := sameT_any (L.map fun x => (⟨x.toArray⟩ : ByteArray)) A B c d w (by rw [← e]; exact hA) (by rw [← e]; exact hB) (by rw [List.length_map]; exact hn)
  rw [List.length_map] at this
  exact this
theorem mss_len (l : List UInt8) : (mss l).1.length ≤ l.length := by
  have h := congrArg List.length (mss_enc l)
  have hl : ∀ ls : List (List UInt8), ls.length ≤ (encM ls).length := by
    intro ls
    induction ls with
    | nil => simp
    | cons x xs ih => rw [encM_length_cons]; simp; omega
  have := hl (mss l).1
  rw [List.length_append] at h
  omega
theorem mss_len2 (l : List UInt8) : (mss l).2.length ≤ l.length := by
  have h := congrArg List.length (mss_enc l)
  rw [List.length_append] at h
  omega
theorem ttab_txt {w : World} {A : Option Addr} {c : Nat} {L : List (List UInt8)} (h : Sl w 1 (.slice A L.length c) L.length (txtV L)) : TTab w A (txtV L) := by
  have e := txtV_length L
  rw [← e] at h
  exact ttab_of_sl h

/-- What either Feed does, told alike. -/
def FeedPost (K : Nat → Prop) (b : Nat) (L : List UInt8) (w : World) (e : Ending) (w' : World) : Prop :=
  ∃ A c R, e = .returned (.tuple #[.slice A (mss L).1.length c, .int .i64 0]) ∧ TTab w' A (txtV (mss L).1) ∧ SW K b R w' ∧ R = (mss L).2 ∧ KeepK K w w'
def RFeedPost (L : List UInt8) (w : World) (e : Ending) (w' : World) : Prop :=
  ∃ A c R, e = .returned (.tuple #[.string R, .slice A (mss L).1.length c, .int .i64 0]) ∧ R.data.toList = (mss L).2 ∧ Sl w' 1 (.slice A (mss L).1.length c) (mss L).1.length (txtV (mss L).1) ∧ (∀ g, (Value.slice A (mss L).1.length c).ownBlock = some g → w.heap.size ≤ g) ∧ Below w.heap.size w w'
theorem feed_post (K : Nat → Prop) (b : Nat) (l : List UInt8) (s : ByteArray) (w : World) (h : SW K b l w) (hf : l.length + s.size ≤ 131072) :
    Calls Try.prog 46 #[.pointer (some ⟨b, 0, none⟩), .string s] w (FeedPost K b (l ++ s.data.toList) w) :=
  (Feed_fits K b l s w h hf).mono fun _ _ ⟨A, c, he, hs, h1, h2⟩ => ⟨A, c, _, he, ttab_txt hs, h1, rfl, h2⟩
theorem rfeed_post (a s : ByteArray) (h : a.size + s.size ≤ 131072) (w : World) : Calls Try.prog 45 #[.string a, .string s] w (RFeedPost (a.data.toList ++ s.data.toList) w) := by
  have e : (a ++ s).data.toList = a.data.toList ++ s.data.toList := by rw [ByteArray.data_append]; simp
  have := rFeed_fits a s h w
  rw [e] at this
  exact this.mono fun _ _ ⟨A, c, he, hs, h1, h2⟩ => ⟨A, c, _, he, rfl, hs, h1, h2⟩
theorem cWs {K : Nat → Prop} {b : Nat} {R : ByteArray} {w : World} (h : SW K b R.data.toList w) : Calls Try.prog 47 #[.pointer (some ⟨b, 0, none⟩)] w fun e w' => e = .returned (.int .i64 (R.size : Int)) ∧ w = w' := by
  have := cWt h
  rw [show R.data.toList.length = R.size by simp] at this
  exact this

set_option maxHeartbeats 8000000 in
set_option maxRecDepth 100000 in
theorem streamFeeds_law (w : World) (A : Option Addr) (xs : List ByteArray) (c : Nat) (s : ByteArray) (hT : TTab w A (xs.map Value.string)) (hx : ∀ x ∈ xs, x.size ≤ maxLen) (hc : xs.length ≤ c) (hm : c ≤ maxLen) (hs : s.size ≤ maxLen) :
    Calls Try.prog 7 #[.slice A xs.length c, .string s] w fun e w' => e = .returned (.bool true) ∧ Below w.heap.size w w' := by
  have HT := Lib.hid (And.intro hT hx)
  unfold maxLen at hm hs
  have hcases : (60 : Int) < (xs.length : Int) ∨ (¬ (60 : Int) < (xs.length : Int) ∧ (65536 : Int) < (s.size : Int)) ∨ (¬ (60 : Int) < (xs.length : Int) ∧ ¬ (65536 : Int) < (s.size : Int)) := by omega
  clear hT hx hc
  rcases hcases with h1 | ⟨h1, h2⟩ | ⟨h1, h2⟩
  · clear hm hs
    go_enter Try.func7, Try.ntmps7
    go_wp2_with (fail)
    refine (lives30 _).mono ?_
    rintro e w1 ⟨rfl, hb⟩
    have HB := Lib.hid hb
    clear hb
    go_wp2_with (fail)
    go_ret
    exact ⟨rfl, HB.out⟩
  · clear hm hs
    go_enter Try.func7, Try.ntmps7
    go_wp2_with (fail)
    refine (lives30 _).mono ?_
    rintro e w1 ⟨rfl, hb⟩
    have HB := Lib.hid hb
    clear hb
    go_wp2_with (fail)
    go_ret
    exact ⟨rfl, HB.out⟩
  · have hn : xs.length ≤ 60 := by omega
    have hz : s.size ≤ 65536 := by omega
    have HS := Lib.hid (And.intro hn hz)
    have hlI : (xs.length : Int) ≤ 60 := by omega
    clear hm hs hn hz
    go_enter Try.func7, Try.ntmps7
    go_wp2_with (fail)
    refine (lives30 _).mono ?_
    rintro e w1 ⟨rfl, hb⟩
    have B1 := Lib.hid hb
    clear hb
    go_wp2_with (fail)
    have hF := sFrame_any s (by have := HS.out.2; unfold maxLen; omega) w1
    have hF2 := fun W => rFrame_any s (by have := HS.out.2; unfold maxLen; omega) W
    obtain ⟨fr, hfr⟩ : ∃ fr, frameV s = fr := ⟨_, rfl⟩
    rw [hfr] at hF hF2
    obtain ⟨f1, f2⟩ := fr
    have HF2 := Lib.hid hF2
    clear hF2 hfr
    refine hF.mono ?_
    rintro e w2 ⟨rfl, hb⟩
    have B2 := Lib.hid (B1.out.trans (hb.mono B1.out.size))
    clear hb hF
    go_wp2_with (fail)
    refine (HF2.out _).mono ?_
    rintro e w3 ⟨rfl, hb⟩
    have B3 := Lib.hid (B2.out.trans (hb.mono B2.out.size))
    clear hb
    go_wp2_with (fail)
    refine (Split_any s (by have := HS.out.2; omega) w3).mono ?_
    rintro e w4 ⟨A1, c1, rfl, h4, _, hb⟩
    have B4 := Lib.hid (B3.out.trans (hb.mono B3.out.size))
    have T4 := Lib.hid (ttab_txt h4)
    clear hb h4
    go_wp2_with (fail)
    refine (rSplit_any s (by have := HS.out.2; omega) w4).mono ?_
    rintro e w5 ⟨A2, c2, rfl, h4, _, hb⟩
    have B5 := Lib.hid (B4.out.trans (hb.mono B4.out.size))
    have T5 := Lib.hid (And.intro (T4.out.below hb) (ttab_txt h4))
    have hne : (f1.toList != f1.toList) = false := by simp
    have hne2 : (f2 != f2) = false := by simp
    have hne3 : ((⟨((mss s.data.toList).2).toArray⟩ : ByteArray).toList != (⟨((mss s.data.toList).2).toArray⟩ : ByteArray).toList) = false := by simp
    clear hb h4 T4
    go_wp2_with (fail)
    refine (sameTx_any (mss s.data.toList).1 A1 A2 c1 c2 w5 T5.out.1 T5.out.2 (by have := mss_len s.data.toList; have := HS.out.2; simp at *; omega)).mono ?_
    rintro e w6 ⟨rfl, hb⟩
    have B6 := Lib.hid (B5.out.trans (hb.mono B5.out.size))
    clear hb T5
    go_wp2_with (fail)
    refine (sNew_any _).mono ?_
    rintro e w7 ⟨rfl, rfl⟩
    have S7 := Lib.hid (SW.start w6)
    have B7 := Lib.hid (B6.out.alloc B6.out.size (.cells #[.slice none 0 0] 127))
    clear B1 B2 B3 B4 B5 hne hne2 hne3 HF2
    go_wp2_with (fail)
    go_loopg [14, 76] xs.length (fun g a v wr => ∃ (k : Nat) (R : ByteArray), g + k = xs.length ∧ a = .string R ∧ v = .int .i64 (k : Int) ∧ Aside (R.size ≤ 131072) ∧ Aside (SW (fun i => i < w6.heap.size) w6.heap.size R.data.toList wr) ∧ Aside (Below w.heap.size w wr))
    case atStart => exact ⟨0, ⟨#[]⟩, by omega, rfl, rfl, (show Aside _ from (by decide : (⟨#[]⟩ : ByteArray).size ≤ 131072)), S7.out, B7.out⟩
    case round =>
      obtain ⟨k, R, hg, rfl, rfl, hR, hS, hB⟩ := hrel
      by_cases hlt : k < xs.length
      · obtain ⟨b0, o, rfl, hal, hac⟩ := HT.out.1 (by rw [List.length_map]; omega)
        obtain ⟨e, he⟩ : ∃ e, xs[k]? = some e := ⟨_, List.getElem?_eq_getElem hlt⟩
        have hek : (xs.map Value.string)[k]? = some (.string e) := by rw [List.getElem?_map, he]; rfl
        have a0 : wr.cell? ⟨b0, o + k, none⟩ = some (.string e) := by rw [hB.out.cell (p := ⟨b0, o + k, none⟩) hal]; exact hac k _ hek
        have hes := HT.out.2 e (List.mem_of_getElem? he)
        have hltI : (k : Int) < (xs.length : Int) := by omega
        have hkI : (k : Int) ≤ 60 := by omega
        have hRI : (R.size : Int) ≤ 131072 := by have := hR.out; omega
        have HE := Lib.hid hes
        clear hac he hek hes
        by_cases hfit : R.size + e.size ≤ 131072
        · have HF := Lib.hid hfit
          clear hfit
          go_wp2_with (fail)
          refine (rfeed_post R e HF.out _).mono ?_
          rintro e1 w1 ⟨A3, c3, R', rfl, h1, h2, h5, h3⟩
          obtain ⟨K', hK'⟩ : ∃ K' : Nat → Prop, K' = fun i => i < w6.heap.size ∨ (wr.heap.size ≤ i ∧ i < w1.heap.size) := ⟨_, rfl⟩
          have hsz6 : w6.heap.size ≤ wr.heap.size := by obtain ⟨q1, _, _, q2, _, _⟩ := hS.out; exact Nat.le_of_lt q2.lt
          have S1 : SW K' w6.heap.size R.data.toList w1 := hS.out.wide h3 (by rw [hK']; rintro i (hi | hi) <;> have := h3.size <;> omega)
          have S1 := Lib.hid S1
          have B1 := Lib.hid (hB.out.trans (h3.mono hB.out.size))
          have T1 := Lib.hid (And.intro h1 (And.intro h2 (show ∀ g, (Value.slice A3 (mss (R.data.toList ++ e.data.toList)).1.length c3).ownBlock = some g → K' g from fun g hg => by rw [hK']; exact .inr ⟨h5 g hg, h2.lt g hg⟩)))
          have HK := Lib.hid hK'
          clear h1 h2 h3 h5 a0 hK'
          go_wp2_with (fail)
          refine (feed_post _ _ R.data.toList e _ S1.out (by have := HF.out; simpa using this)).mono ?_
          rintro e2 w2 ⟨A4, c4, R2, rfl, h1, h2, h3, h4⟩
          have T2 := Lib.hid (And.intro (ttab_txt (T1.out.2.1.keepK h4 T1.out.2.2)) h1)
          have hRR : R2 = R'.data.toList := h3.trans T1.out.1.symm
          subst hRR
          have S2 := Lib.hid (h2.mono (K' := fun i => i < w6.heap.size) (by rw [HK.out]; exact fun i hi => .inl hi))
          have hRl : R'.size ≤ 131072 := by
            have h5 := mss_len2 (R.data.toList ++ e.data.toList)
            rw [← h3, List.length_append] at h5
            have := HF.out
            simp at h5
            omega
          have hlen := mss_len (R.data.toList ++ e.data.toList)
          rw [List.length_append] at hlen
          simp only [ByteArray.size_data, Array.length_toList] at hlen
          have B2 := Lib.hid (And.intro (B1.out.trans ((h4.below (B := w.heap.size) fun i hi => by rw [HK.out]; exact .inl (Nat.lt_of_lt_of_le hi B6.out.size)))) (And.intro hRl hlen))
          have hnn : ((R'.size : Int) != (R'.size : Int)) = false := by simp
          clear h1 h2 h3 h4 hRl hlen
          go_wp2_with (fail)
          refine (sameTx_any _ _ _ _ _ _ T2.out.2 T2.out.1 (by have := B2.out.2.2; have := HF.out; omega)).mono ?_
          rintro e3 w3 ⟨rfl, hb⟩
          have S3 := Lib.hid (S2.out.next hb)
          have B3 := Lib.hid (And.intro (B2.out.1.trans (hb.mono B2.out.1.size)) B2.out.2.1)
          clear hb T1 T2 S1 S2 B1 B2
          go_wp2_with (fail)
          refine (cWs S3.out).mono ?_
          rintro e4 w4 ⟨rfl, rfl⟩
          go_wp2_with (fail)
          go_roundg (xs.length - (k + 1))
          case measure => omega
          case rel => exact ⟨k + 1, R', by omega, rfl, by go_num, B3.out.2, S3.out, B3.out.1⟩
        · have HF := Lib.hid (show 131072 < R.size + e.size by omega)
          have hnn : ((R.size : Int) != (R.size : Int)) = false := by simp
          clear hfit
          go_wp2_with (fail)
          refine (rFeed_full R e hR.out HE.out HF.out _).mono ?_
          rintro e1 w1 ⟨rfl, rfl⟩
          go_wp2_with (fail)
          refine (Feed_full _ _ R.data.toList e _ hS.out HE.out (by have := hR.out; simpa using this) (by have := HF.out; simpa using this)).mono ?_
          rintro e2 w2 ⟨rfl, rfl⟩
          go_wp2_with (fail)
          refine (sameT_any [] none none 0 0 _ (fun h => absurd h (by simp)) (fun h => absurd h (by simp)) (by simp)).mono ?_
          rintro e3 w3 ⟨rfl, hb⟩
          have S3 := Lib.hid (hS.out.next hb)
          have B3 := Lib.hid (hB.out.trans (hb.mono hB.out.size))
          clear hb a0
          go_wp2_with (fail)
          refine (cWs S3.out).mono ?_
          rintro e4 w4 ⟨rfl, rfl⟩
          go_wp2_with (fail)
          go_roundg (xs.length - (k + 1))
          case measure => omega
          case rel => exact ⟨k + 1, R, by omega, rfl, by go_num, hR, S3.out, B3.out⟩
      · obtain rfl : k = xs.length := by omega
        have hB' := Lib.hid hB.out
        clear hR hS
        go_wp2_with (fail)
        go_ret
        exact ⟨rfl, hB'.out⟩
end Go.Proofs.Ytkdfbmbccopchaa
