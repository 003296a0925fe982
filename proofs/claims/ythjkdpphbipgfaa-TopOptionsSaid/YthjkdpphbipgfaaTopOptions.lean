/- The walk of hardtacktop.TopOptions. Conditions: none. -/
import Derived.Test.YthjkdpphbipgfaaEdGetO
import Derived.Test.YthjkdpphbipgfaaSum
import Derived.Test.YthjkdpphbipgfaaBytes
import Derived.Test.YthjkdpphbipgfaaTopBegin
namespace Go.Proofs.Ythjkdpphbipgfaa
open Go.RowKit Go.Shelf Go.Lib

theorem lowL_btsO (x : Nat) : ∀ k, lowL (bytesL x k) = x % 256 ^ k
  | 0 => by simp [bytesL, lowL, Nat.mod_one]
  | k + 1 => by
    rw [bytesL_succ, lowL_snoc, lowL_btsO x k, bytesL_length, byteI_toNat]
    have h1 : x % 256 ^ (k + 1) = x % (256 ^ k * 256) := by rw [Nat.pow_succ]
    rw [h1, Nat.mod_mul]
    rw [Nat.mul_comm (256 ^ k)]
theorem val_bytes {x : Nat} (hx : x ≤ 18446744073709551615) : valN ⟨(bytesL x 8).toArray⟩ = (x : Int) ∧ valE ⟨(bytesL x 8).toArray⟩ = 0 := by
  have hs : (⟨(bytesL x 8).toArray⟩ : ByteArray).size = 8 := by show (bytesL x 8).toArray.size = 8; simp [bytesL_length]
  unfold valN valE
  rw [if_pos hs, if_pos hs]
  refine ⟨?_, rfl⟩
  show ((lowL (bytesL x 8).toArray.toList : Nat) : Int) = x
  rw [show (bytesL x 8).toArray.toList = bytesL x 8 from by simp, lowL_btsO, Nat.mod_eq_of_lt (by omega)]
theorem left_noneO (l : List RRec) : ∀ (j : Nat) (f : RRec), (leftsR 41 l)[j]? = some f → RRec.is 41 f = false := by
  intro j f h
  have := (List.mem_filter.1 (List.mem_of_getElem? h)).2
  simpa using this
theorem one_put (id bi : Int) (qA sA hA eA : Option Addr) (q : List QRec) (qc sc hc ec : Nat) (e : List RRec) (xs : List Opt) (sz hi ve fl : Int) (s : ByteArray) (hd : s.data.toList = optsB xs) (hs : s.size ≤ 4096) (hf : ∀ o ∈ xs, o.fits) (hl : xs.length ≤ 1000)
    (hbd : (0 ≤ hi ∧ hi ≤ 255) ∧ (0 ≤ ve ∧ ve ≤ 255) ∧ 0 ≤ fl ∧ fl ≤ 65535) :
    OneOpt ⟨id, bi, qA, q, qc, sA, [], sc, hA, [], hc, eA, putE e true sz hi ve fl s, ec⟩ (leftsR 41 e).length ⟨⟨#[0]⟩, 41, sz, ttlE hi ve fl, s⟩ xs sz hi ve fl := by
  refine ⟨rfl, rfl, ?_, ?_, ?_, rfl, rfl, rfl, hd, hf, ⟨by show s.size ≤ 100000; omega, hl⟩, hbd⟩
  · show (leftsR 41 e ++ [_])[(leftsR 41 e).length]? = _
    rw [List.getElem?_append_right (Nat.le_refl _), Nat.sub_self]; rfl
  · refine idxP_hit (e := ⟨⟨#[0]⟩, 41, sz, ttlE hi ve fl, s⟩) ?_ rfl (fun j f hj hf => ?_)
    · show (leftsR 41 e ++ [_])[(leftsR 41 e).length]? = _
      rw [List.getElem?_append_right (Nat.le_refl _), Nat.sub_self]; rfl
    · have hf' : (leftsR 41 e ++ [_])[j]? = some f := hf
      rw [List.getElem?_append_left hj] at hf'
      exact left_noneO e j f hf'
  · show ((leftsR 41 e ++ [_]).drop ((leftsR 41 e).length + 1)).any _ = false
    rw [List.drop_eq_nil_of_le (by rw [List.length_append]; exact Nat.le_refl _)]; rfl

theorem msg_noStrO {w : World} {g : Nat} {v0 v1 : Int} {A B C D : Option Addr} {a a' b b' c c' d d' : Nat} (hB : Blk w g 26 #[.int .u16 v0, .int .u16 v1, .slice A a a', .slice B b b', .slice C c c', .slice D d d']) (off : Nat) (s : ByteArray) (h : w.cell? ⟨g, off, none⟩ = some (.string s)) : False := by
  rw [hB.cell] at h
  match off, h with
  | 0, h => simp at h
  | 1, h => simp at h
  | 2, h => simp at h
  | 3, h => simp at h
  | 4, h => simp at h
  | 5, h => simp at h
  | off + 6, h => simp at h
theorem otab_farO {w w' : World} {A : Option Addr} {xs : List Opt} {g1 : Nat} (h : OTab w A xs) (h1 : ∀ off s, w.cell? ⟨g1, off, none⟩ = some (.string s) → False) (k : KeepK (fun i => i ≠ g1) w w') : OTab w' A xs := by
  refine ⟨h.1, fun hn => ?_⟩
  obtain ⟨b, off, hA, hlt, hc⟩ := h.2 hn
  have hs := hc 0 xs[0] (List.getElem?_eq_getElem hn) 1 _ rfl
  have hg1 : b ≠ g1 := by rintro rfl; exact h1 _ _ hs
  exact ⟨b, off, hA, Nat.lt_of_lt_of_le hlt k.size, fun j e he i v hv => (k.cell (p := ⟨b, off + j * 2 + i, none⟩) hg1).trans (hc j e he i v hv)⟩
theorem right_leO {c s : ByteArray} (h : rightB c s = true) : (c ++ s).size ≤ 40 := by
  simp only [rightB, Bool.and_eq_true, beq_iff_eq, Bool.or_eq_true, decide_eq_true_eq] at h
  rw [ByteArray.size_append]
  omega
theorem data_okO (xs : List Opt) (hx : (optsB xs).length ≤ 4096) (sz hi ve fl : Int) (A : Option Addr) (c : Nat) (w : World) (hT : OTab w A xs) (hl : xs.length ≤ 1000) (hsz : ∀ o ∈ xs, o.d.size ≤ 1000000) :
    ∀ W, Below w.heap.size w W → Calls Try.prog 57 #[ednsV true sz hi ve fl A xs.length c] W fun e w' => ∃ s ok, e = .returned (.tuple #[.string s, .bool ok]) ∧ (ok = true ∧ s.data.toList = optsB xs ∧ s.size ≤ 4096) ∧ Below W.heap.size W w' := by
  intro W hW
  refine (data_yes sz hi ve fl A xs c W (hT.below hW) hl hsz).mono ?_
  rintro e w' ⟨s, ok, rfl, h1, h2, hb⟩
  exact ⟨s, ok, rfl, ⟨h2 hx, h1 (h2 hx)⟩, hb⟩

set_option maxRecDepth 100000 in
set_option maxHeartbeats 8000000 in
theorem topOptions_law (w : World) (key text server : ByteArray) (m : MRec) (hk : key.size ≤ maxLen) (ht : text.size ≤ maxLen) (hs : server.size ≤ maxLen) (hm : m.In w) (hok : m.Ok) (hz : m.q.length ≤ 140737488355328 ∧ m.s.length ≤ 140737488355328 ∧ m.h.length ≤ 140737488355328 ∧ m.e.length ≤ 140737488355328) :
    Calls Try.prog 7 #[.string key, .string text, .string server, m.val] w fun e w' => e = .returned (.bool true) ∧ Below w.heap.size w w' := by
  have HM := Lib.hid (And.intro hm (And.intro hok (And.intro hk (And.intro ht hs))))
  have htI : (text.size : Int) ≤ 9223372036854775807 := by unfold maxLen at ht; omega
  have hkI : (key.size : Int) ≤ 9223372036854775807 := by unfold maxLen at hk; omega
  have hqI : (m.q.length : Int) ≤ 140737488355328 := by omega
  have hsI : (m.s.length : Int) ≤ 140737488355328 := by omega
  have hhI : (m.h.length : Int) ≤ 140737488355328 := by omega
  have heI : (m.e.length : Int) ≤ 140737488355328 := by omega
  clear hm hok hk ht hs hz
  dsimp only [MRec.val]
  go_enter Try.func7, Try.ntmps7
  obtain ⟨V, hV⟩ : ∃ V, w.alloc (.cells #[.int .u16 m.id, .int .u16 m.bi, .slice m.qA m.q.length m.qc, .slice m.sA m.s.length m.sc, .slice m.hA m.h.length m.hc, .slice m.eA m.e.length m.ec] 26) = V := ⟨_, rfl⟩
  have hV1 : Below w.heap.size w V := by rw [← hV]; exact below_allocE _ _
  have hV2 : Blk V w.heap.size 26 #[.int .u16 m.id, .int .u16 m.bi, .slice m.qA m.q.length m.qc, .slice m.sA m.s.length m.sc, .slice m.hA m.h.length m.hc, .slice m.eA m.e.length m.ec] := by rw [← hV]; exact Blk.new _ _ _
  have HV := Lib.hid (And.intro hV1 hV2)
  clear hV1 hV2
  go_wp2_with (fail)
  with_reducible refine (begins_any V).mono ?_
  rintro e w1 ⟨rfl, hb1⟩
  have hB1 := HV.out.2.belowS hb1
  have m2 := hB1.cell 2
  have m3 := hB1.cell 3
  have m4 := hB1.cell 4
  have m5 := hB1.cell 5
  have H1 := Lib.hid (And.intro (belowT HV.out.1 hb1) hB1)
  clear hb1 hB1 hV
  by_cases h4 : 4096 < text.size
  · have h4I : (4096 : Int) < (text.size : Int) := by omega
    clear h4
    go_wp2_with (fail)
    go_ret
    exact ⟨rfl, H1.out.1⟩
  have h4I : ¬ (4096 : Int) < (text.size : Int) := by omega
  have H4 := Lib.hid h4
  clear h4
  by_cases hsum : 30 < m.q.length + m.s.length + m.h.length + m.e.length
  · have hsuI : (30 : Int) < (m.q.length : Int) + (m.s.length : Int) + (m.h.length : Int) + (m.e.length : Int) := by omega
    clear hsum
    go_wp2_with (fail)
    go_ret
    exact ⟨by simp, H1.out.1⟩
  have hsuI : ¬ (30 : Int) < (m.q.length : Int) + (m.s.length : Int) + (m.h.length : Int) + (m.e.length : Int) := by omega
  have HSU := Lib.hid hsum
  clear hsum
  have hSum := Sum_any key text (by omega) (by omega) w1
  by_cases h16 : key.size = 16
  case neg =>
    have hE : sumE key.data.toList text.data.toList = 2 := by unfold sumE; rw [if_pos (by simpa using h16)]
    rw [hE] at hSum
    have HS := Lib.hid hSum
    have h16I : ¬ (key.size : Int) = 16 := by omega
    clear hSum hE h16
    go_wp2_with (fail)
    refine HS.out.mono ?_
    rintro e w2 ⟨rfl, hb2⟩
    have H2 := Lib.hid (belowT H1.out.1 hb2)
    clear hb2
    go_wp2_with (fail)
    go_ret
    exact ⟨by simp; exact h16I, H2.out⟩
  have hE : sumE key.data.toList text.data.toList = 0 := by unfold sumE; rw [if_neg (by simpa using h16), if_neg (by have := H4.out; simp; omega)]
  obtain ⟨N, hN, hNb⟩ : ∃ N : Nat, sumN key.data.toList text.data.toList = (N : Int) ∧ N ≤ 18446744073709551615 := by
    unfold sumN
    split
    · have := U_bd (sumB key.data.toList text.data.toList)
      exact ⟨(U (sumB key.data.toList text.data.toList)).toNat, by omega, by omega⟩
    · exact ⟨0, rfl, by omega⟩
  rw [hE, hN] at hSum
  have HS := Lib.hid hSum
  have hNI : (N : Int) ≤ 18446744073709551615 := by omega
  obtain ⟨Bc, hBc⟩ : ∃ B, (⟨(bytesL N 8).toArray⟩ : ByteArray) = B := ⟨_, rfl⟩
  have HB := Lib.hid (fun W => bytes_any N hNb W)
  have hval := val_bytes hNb
  rw [hBc] at HB hval
  have hBs : Bc.size = 8 := by rw [← hBc]; show (bytesL N 8).toArray.size = 8; simp [bytesL_length]
  have HBc := Lib.hid (And.intro hval hBs)
  clear hSum hE hN h16 hNb hBc hval hBs
  go_wp2_with (fail)
  refine HS.out.mono ?_
  rintro e w2 ⟨rfl, hb2⟩
  have hB2 := H1.out.2.belowS hb2
  have H2 := Lib.hid (And.intro (belowT H1.out.1 hb2) hB2)
  clear hb2 hB2 m2 m3 m4 m5 HS
  go_wp2_with (fail)
  with_reducible refine (HB.out w2).mono ?_
  rintro e w3 ⟨rfl, hb3⟩
  have H3 := Lib.hid (And.intro (belowT H2.out.1 hb3) (H2.out.2.belowS hb3))
  have hBl : Bc.size ≤ maxLen := by have := HBc.out.2; unfold maxLen; omega
  have hSl := HM.out.2.2.2.2
  clear hb3 H2
  cases hr : rightB Bc server with
  | false =>
    have HW := Lib.hid (With_no false 512 0 0 0 none [] 0 Bc server hBl hSl w3 hr)
    clear hBl hSl hr
    go_wp2_with (fail)
    refine HW.out.mono ?_
    rintro e w4 ⟨rfl, hb4⟩
    have H4b := Lib.hid (belowT H3.out.1 hb4)
    clear hb4
    go_wp2_with (fail)
    go_ret
    exact ⟨by simp, H4b.out.alloc H4b.out.size _⟩
  | true =>
    have hW := With_yes false 512 0 0 0 none [] 0 Bc server hBl hSl w3 (OTab.nil_ _ _) (by decide) hr
    have hck := ckR_with [] Bc server hr
    have hwo : withO [] Bc server = [(⟨10, Bc ++ server⟩ : Opt)] := rfl
    rw [hwo] at hW hck
    have hos := right_leO hr
    obtain ⟨oO, hoO⟩ : ∃ o, (⟨10, Bc ++ server⟩ : Opt) = o := ⟨_, rfl⟩
    have hod : oO.d.size ≤ 40 := by rw [← hoO]; exact hos
    have hoc : oO.c = 10 := by rw [← hoO]
    rw [hoO] at hW hck
    rw [show ([oO] : List Opt).length = 1 from rfl] at hW
    have HW := Lib.hid hW
    have HCK := Lib.hid (And.intro hck (And.intro hod hoc))
    clear hBl hSl hr hW hck hwo hos hoO hod hoc
    go_wp2_with (fail)
    refine HW.out.mono ?_
    rintro e w4 ⟨A4, c4, rfl, hO4, hb4⟩
    obtain ⟨v4, hv4⟩ : ∃ v, w4.alloc (.cells #[.bool true, .int .u16 512, .int .u8 0, .int .u8 0, .int .u16 0, .slice A4 1 c4] 45) = v := ⟨_, rfl⟩
    have hE4 : Blk v4 w4.heap.size 45 #[.bool true, .int .u16 512, .int .u8 0, .int .u8 0, .int .u16 0, .slice A4 1 c4] := by rw [← hv4]; exact Blk.new _ _ _
    have hbv : Below w4.heap.size w4 v4 := by rw [← hv4]; exact below_allocE _ _
    have hM4 := H3.out.2.belowS (belowT hb4 hbv)
    have hOv := hO4.below hbv
    have hb3v := belowT H3.out.1 (belowT hb4 hbv)
    have hlt : w.heap.size < w4.heap.size := by have := H3.out.2.lt; have := hb4.size; omega
    have k : KeepK (fun i => i ≠ w.heap.size) v4 ((v4.setCell ⟨w.heap.size, 3, none⟩ (.slice none 0 0)).setCell ⟨w.heap.size, 4, none⟩ (.slice none 0 0)) := ((KeepK.refl _ v4).setCell (p := ⟨w.heap.size, 3, none⟩) (fun i hi => hi) _).setCell (p := ⟨w.heap.size, 4, none⟩) (fun i hi => hi) _
    have hO5 := otab_farO hOv (fun off s h => msg_noStrO hM4 off s h) k
    have hE5 := hE4.keepK k (by omega)
    have hb5 : Below w.heap.size w ((v4.setCell ⟨w.heap.size, 3, none⟩ (.slice none 0 0)).setCell ⟨w.heap.size, 4, none⟩ (.slice none 0 0)) := ((KeepK.of_below (K := fun i => i < w.heap.size) hb3v fun i hi => hi).trans (k.mono fun i hi => by omega)).below fun i hi => hi
    have hM5 : Blk ((v4.setCell ⟨w.heap.size, 3, none⟩ (.slice none 0 0)).setCell ⟨w.heap.size, 4, none⟩ (.slice none 0 0)) w.heap.size 26 #[.int .u16 m.id, .int .u16 m.bi, .slice m.qA m.q.length m.qc, .slice none 0 0, .slice none 0 0, .slice m.eA m.e.length m.ec] := by
      have h := (hM4.set_ 3 (.slice none 0 0)).set_ 4 (.slice none 0 0)
      simpa using h
    have m3 := hM4.cell 3
    have m4 := hM4.cell 4
    have f3 := hM4.frozen 3
    have f4 := hM4.frozen 4
    have m0 := hM4.cell 0
    have m1 := hM4.cell 1
    have m2 := hM4.cell 2
    have m5 := hM4.cell 5
    have e0 := hE4.cell 0
    have e1 := hE4.cell 1
    have e2 := hE4.cell 2
    have e3 := hE4.cell 3
    have e4 := hE4.cell 4
    have e5 := hE4.cell 5
    have hin := HM.out.1.below hb5
    have HP := Lib.hid (put_any ⟨m.id, m.bi, m.qA, m.q, m.qc, none, [], 0, none, [], 0, m.eA, m.e, m.ec⟩ true 512 0 0 0 A4 [oO].length c4 _ _ ⟨hin.tq, RTab.nil_, RTab.nil_, hin.te⟩ ⟨by have := HSU.out; show m.q.length ≤ 4000; omega, Nat.zero_le _, Nat.zero_le _, by have := HSU.out; show m.e.length ≤ 4000; omega⟩ (by decide)
      (data_okO [oO] (by have := HCK.out.2.1; simp [optsB, optB_length]; omega) 512 0 0 0 A4 c4 _ hO5 (show 1 ≤ 1000 by omega) (fun o ho => by rw [List.mem_singleton.1 ho]; have := HCK.out.2.1; omega)))
    rw [show ([oO] : List Opt).length = 1 from rfl] at HP
    unfold ednsV MRec.val at HP
    rw [show ([] : List RRec).length = 0 from rfl] at HP
    have H5 := Lib.hid (And.intro hb5 (And.intro hE5 (And.intro hM5 hO5)))
    clear hbv hM4 hOv hb3v k hO5 hE5 hb5 hM5 hin hE4 hO4 hb4
    go_wp2_with (fail)
    refine HP.out.mono ?_
    rintro e w6 (⟨s, ⟨h, _⟩, _⟩ | ⟨s, qA, qc, sA, sc, hA, hc, eA, ec, hD, rfl, hIn, hb6, hS6, _⟩)
    · cases h
    obtain ⟨L, hL⟩ : ∃ L, putE m.e true 512 0 0 0 s = L := ⟨_, rfl⟩
    have hone := one_put m.id m.bi qA sA hA eA m.q qc sc hc ec m.e [oO] 512 0 0 0 s hD.2.1 hD.2.2 (fun o ho => by rw [List.mem_singleton.1 ho]; exact ⟨by rw [HCK.out.2.2]; decide, by have := HCK.out.2.1; omega⟩) (show 1 ≤ 1000 by omega) ⟨⟨by decide, by decide⟩, ⟨by decide, by decide⟩, by decide, by decide⟩
    have hll : (leftsR 41 m.e).length ≤ 30 := by
      have h1 : (leftsR 41 m.e).length ≤ m.e.length := List.length_filter_le _ _
      have := HSU.out
      omega
    have hLl : L.length ≤ 31 := by
      rw [← hL]
      show (leftsR 41 m.e ++ [_]).length ≤ 31
      rw [List.length_append]
      simp
      omega
    have hec : L.length ≤ ec ∧ ec ≤ maxLen := by
      rw [← hL]
      obtain ⟨_, _, hv, h1, h2⟩ := hS6.shape
      injection hv with _ _ hv
      subst hv
      exact ⟨h1, h2⟩
    rw [hL] at hIn hone ⊢
    have HG := Lib.hid (fun W (hW : Below w6.heap.size w6 W) => get_opt _ _ _ [oO] 512 0 0 0 W (hIn.below hW) ⟨Nat.zero_le _, Nat.zero_le _, (show L.length ≤ 4010 by omega), hec.1, hec.2⟩ hone)
    rw [show ([oO] : List Opt).length = 1 from rfl] at HG
    unfold ednsV at HG
    dsimp only [MRec.val, List.length_nil] at HG ⊢
    obtain ⟨v6, hv6⟩ : ∃ v, w6.alloc (.cells #[.int .u16 m.id, .int .u16 m.bi, .slice qA m.q.length qc, .slice sA 0 sc, .slice hA 0 hc, .slice eA L.length ec] 26) = v := ⟨_, rfl⟩
    have hX6 : Blk v6 w6.heap.size 26 #[.int .u16 m.id, .int .u16 m.bi, .slice qA m.q.length qc, .slice sA 0 sc, .slice hA 0 hc, .slice eA L.length ec] := by rw [← hv6]; exact Blk.new _ _ _
    have hbv : Below w6.heap.size w6 v6 := by rw [← hv6]; exact below_allocE _ _
    have x0 := hX6.cell 0
    have x1 := hX6.cell 1
    have x2 := hX6.cell 2
    have x3 := hX6.cell 3
    have x4 := hX6.cell 4
    have x5 := hX6.cell 5
    have H6 := Lib.hid (And.intro (H5.out.1.trans ((belowT hb6 hbv).mono H5.out.1.size)) hbv)
    clear hX6 hbv hb6 hD hIn hS6 hone hll hLl hec hL m0 m1 m2 m3 m4 m5 e0 e1 e2 e3 e4 e5 f3 f4 HP
    go_wp2_with (fail)
    refine (HG.out v6 H6.out.2).mono ?_
    rintro e w7 ⟨A7, c7, rfl, hO7, hb7, -, -⟩
    obtain ⟨v7, hv7⟩ : ∃ v, w7.alloc (.cells #[.bool true, .int .u16 512, .int .u8 0, .int .u8 0, .int .u16 0, .slice A7 1 c7] 45) = v := ⟨_, rfl⟩
    have hG7 : Blk v7 w7.heap.size 45 #[.bool true, .int .u16 512, .int .u8 0, .int .u8 0, .int .u16 0, .slice A7 1 c7] := by rw [← hv7]; exact Blk.new _ _ _
    have hbv7 : Below w7.heap.size w7 v7 := by rw [← hv7]; exact below_allocE _ _
    have z0 := hG7.cell 0
    have z1 := hG7.cell 1
    have z2 := hG7.cell 2
    have z3 := hG7.cell 3
    have z4 := hG7.cell 4
    have z5 := hG7.cell 5
    have hCk := Cookies_any true 512 0 0 0 A7 [oO] c7 v7 (hO7.below hbv7) (show 1 ≤ 9223372036854775807 by omega)
    rw [HCK.out.1] at hCk
    have HC := Lib.hid hCk
    have H7 := Lib.hid (And.intro (H6.out.1.trans ((belowT hb7 hbv7).mono H6.out.1.size)) hG7)
    clear hG7 hbv7 hO7 hb7 hCk x0 x1 x2 x3 x4 x5
    go_wp2_with (fail)
    refine HC.out.mono ?_
    rintro e w8 ⟨rfl, hb8⟩
    have hv := value_any Bc (by have := HBc.out.2; unfold maxLen; omega) w8
    rw [HBc.out.1.1, HBc.out.1.2] at hv
    have HVal := Lib.hid hv
    have z1' := (H7.out.2.belowS hb8).cell 1
    have H8 := Lib.hid (H7.out.1.trans (hb8.mono H7.out.1.size))
    clear hb8 hv z0 z1 z2 z3 z4 z5
    go_wp2_with (fail)
    refine HVal.out.mono ?_
    rintro e w9 ⟨rfl, rfl⟩
    go_wp2_with (fail)
    go_ret
    exact ⟨by simp, H8.out⟩
end Go.Proofs.Ythjkdpphbipgfaa
