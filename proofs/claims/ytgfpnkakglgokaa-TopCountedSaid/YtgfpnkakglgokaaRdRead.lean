/- The walk of package rdata's Read. Conditions: none. -/
import Derived.Test.YtgfpnkakglgokaaRdPut
import Derived.Test.YtgfpnkakglgokaaBuilder
import Derived.Deep.CutBlock
import Derived.Deep.DeepCutAuto
namespace Go.Proofs.Ytgfpnkakglgokaa
open Go.RowKit Go.Lib

/-! A reader's ways, as functions of its place and whether it is bad -/
def rawM (l : Bs) (st : Nat × Bool) (k : Nat) : Bs × (Nat × Bool) := if st.2 = true then ([], st) else if k ≤ l.length - st.1 then ((l.drop st.1).take k, (st.1 + k, false)) else ([], (st.1, true))
def nameM (l : Bs) (st : Nat × Bool) : Bs × (Nat × Bool) := if st.2 = true then ([], st) else if isName (nread l st.1).1 = true then ((nread l st.1).1, ((nread l st.1).2.getD 0, false)) else ([], (st.1, true))
def namesM (l : Bs) : Nat → Nat × Bool → Bs × (Nat × Bool)
  | 0, st => ([], st)
  | k + 1, st => ((nameM l st).1 ++ (namesM l k (nameM l st).2).1, (namesM l k (nameM l st).2).2)
def readM (t : Int) (l : Bs) (a n : Nat) : Bs × (Nat × Bool) := match formN t with
  | none => rawM l (a, false) n
  | some f => ((rawM l (a, false) (2 * f.1)).1 ++ (namesM l f.2.1 (rawM l (a, false) (2 * f.1)).2).1 ++ (rawM l (namesM l f.2.1 (rawM l (a, false) (2 * f.1)).2).2 (4 * f.2.2)).1, (rawM l (namesM l f.2.1 (rawM l (a, false) (2 * f.1)).2).2 (4 * f.2.2)).2)
def readD (t : Int) (l : Bs) (a n : Nat) : Option Bs := if (readM t l a n).2.2 = false ∧ l.length - (readM t l a n).2.1 = 0 ∧ okD t (readM t l a n).1 = true then some (readM t l a n).1 else none
theorem readD_ok {t : Int} {l d : Bs} {a n : Nat} (h : readD t l a n = some d) : okD t d = true := by
  unfold readD at h
  split at h
  · rename_i hc
    injection h with h
    rw [← h]; exact hc.2.2
  · cases h
theorem rawM_len (l : Bs) (st : Nat × Bool) (k : Nat) : (rawM l st k).1.length ≤ k := by
  unfold rawM
  split
  · simp
  · split
    · simp; omega
    · simp
theorem nameM_len (l : Bs) (st : Nat × Bool) : (nameM l st).1.length ≤ 255 := by
  unfold nameM
  split
  · simp
  · split
    · rename_i h
      exact ((isName_iff _).1 h).1
    · simp
theorem namesM_snoc (l : Bs) : ∀ (k : Nat) (st : Nat × Bool), namesM l (k + 1) st = ((namesM l k st).1 ++ (nameM l (namesM l k st).2).1, (nameM l (namesM l k st).2).2)
  | 0, st => by simp [namesM]
  | k + 1, st => by
    have ih := namesM_snoc l k (nameM l st).2
    show ((nameM l st).1 ++ (namesM l (k + 1) (nameM l st).2).1, (namesM l (k + 1) (nameM l st).2).2) = _
    rw [ih]
    simp [namesM]
theorem namesM_len (l : Bs) : ∀ (k : Nat) (st : Nat × Bool), (namesM l k st).1.length ≤ 255 * k
  | 0, st => by simp [namesM]
  | k + 1, st => by
    have h1 := nameM_len l st
    have h2 := namesM_len l k (nameM l st).2
    show ((nameM l st).1 ++ (namesM l k (nameM l st).2).1).length ≤ _
    rw [List.length_append]
    omega

def RawPost (b : Nat) (s : ByteArray) (x : Bs × (Nat × Bool)) (w : World) (e : Ending) (w' : World) : Prop :=
  e = .returned (.string ⟨x.1.toArray⟩) ∧ Rd w' b s x.2.1 x.2.2 ∧ But b w w' ∧ x.2.1 ≤ s.size
theorem raw_st {w : World} {b : Nat} {s : ByteArray} {st : Nat × Bool} (h : Rd w b s st.1 st.2) (k : Nat) (hs : s.size ≤ 140737488355328) (ha : st.1 ≤ s.size) :
    Calls Try.prog 58 #[.pointer (some ⟨b, 0, none⟩), .int .i64 (k : Int)] w (RawPost b s (rawM s.data.toList st k) w) := by
  obtain ⟨a, bad⟩ := st
  have hsl : s.data.toList.length = s.size := by simp
  have hml : s.size ≤ maxLen := by unfold maxLen; omega
  unfold rawM RawPost
  dsimp only at h ha ⊢
  cases bad with
  | true =>
    rw [if_pos rfl]
    exact (rRaw_bad h k).mono fun e w' ⟨he, hw⟩ => ⟨he, hw ▸ h, hw ▸ But.refl b w, ha⟩
  | false =>
    rw [if_neg (by decide), hsl]
    by_cases hk : k ≤ s.size - a
    · rw [if_pos hk]
      have := rRaw_yes h k hml (by omega)
      rw [ba_eq (take_byte s a k (by omega))] at this
      exact this.mono fun e w' ⟨he, h1, h2⟩ => ⟨he, h1, h2, by dsimp only; omega⟩
    · rw [if_neg hk]
      have := rRaw_no h (k : Int) hml ha (.inr (by omega))
      exact this.mono fun e w' ⟨he, h1, h2⟩ => ⟨he, h1, h2, ha⟩
theorem name_st {w : World} {b : Nat} {s : ByteArray} {st : Nat × Bool} (h : Rd w b s st.1 st.2) (hs : s.size ≤ 140737488355328) (ha : st.1 ≤ s.size) :
    Calls Try.prog 34 #[.pointer (some ⟨b, 0, none⟩)] w (RawPost b s (nameM s.data.toList st) w) := by
  obtain ⟨a, bad⟩ := st
  have hsl : s.data.toList.length = s.size := by simp
  unfold nameM RawPost
  dsimp only at h ha ⊢
  cases bad with
  | true =>
    rw [if_pos rfl]
    exact (rName_bad h).mono fun e w' ⟨he, hw⟩ => ⟨he, hw ▸ h, hw ▸ But.refl b w, ha⟩
  | false =>
    rw [if_neg (by decide)]
    refine (rName_any h hs ha).mono fun e w' hp => ?_
    rcases hp with ⟨hn, q, hq, he, h1, h2⟩ | ⟨hn, he, h1, h2⟩
    · rw [if_pos hn, hq]
      have hb := nread_beh _ _ _ hq
      exact ⟨he, h1, h2, by show q ≤ s.size; omega⟩
    · rw [if_neg (by rw [hn]; decide)]
      exact ⟨he, h1, h2, ha⟩

set_option maxHeartbeats 2000000 in
set_option maxRecDepth 100000 in
/-- A builder that holds nothing. -/
theorem bString_none {K : Nat → Prop} {w : World} {b : Nat} (h : Bd K w b []) :
    Calls Try.prog 72 #[.pointer (some ⟨b, 0, none⟩)] w fun e w' => e = .returned (.string ⟨#[]⟩) ∧ KeepK K w w' := by
  obtain ⟨h1, p, v, _, hbk, hown, hne⟩ := h
  have hUS : ∀ (q : Option Addr) (W : World), (Builtin.unsafeString_ #[162, 3] 9 #[.pointer q, .int .i64 0]).run Try.prog W = .ok (.string ⟨#[]⟩) W := fun q W => Lib.run_unsafeString_none W 162 3 9 q
  rcases hown.2 with ⟨rfl, _⟩ | ⟨g, cap, cur, rfl, _, hg, _, _, _⟩
  · have c1 : w.drew.cell? ⟨b, 1, none⟩ = some (.slice none 0 0) := (hbk.drew).cell 1
    have hSD : (Builtin.unsafeSliceData_ #[120] 162 #[.slice none 0 0]).run Try.prog w.drew = .ok (.pointer none) w.drew := Lib.run_unsafeSliceData_nil _ _ _ _ _
    have HK := Lib.hid ((KeepK.refl K w).drew)
    clear hbk hown hne h1
    go_enter Try.func72, Try.ntmps72
    go_wp2
    go_region
    all_goals (go_wp2; go_ret; exact ⟨rfl, HK.out⟩)
  · have c1 : w.drew.cell? ⟨b, 1, none⟩ = some (.slice (some ⟨g, 0, none⟩) 0 cap) := (hbk.drew).cell 1
    by_cases hc : cap = 0
    · subst hc
      have hsh : w.drew.shape? g = some (5, cur.size) := by
        have hg' : w.drew.heap[g]? = some (.cells cur 5 (0, 0)) := hg
        simp [World.shape?, hg']
      have hSD := Lib.run_unsafeSliceData_zero (P := Try.prog) (w := w.drew) #[120] 162 5 Try.underlying162 ⟨g, 0, none⟩ 0 _ hsh
      have c1' : (w.alloc (.view ⟨g, 0, none⟩ 5)).cell? ⟨b, 1, none⟩ = some (.slice (some ⟨g, 0, none⟩) 0 0) := (World.cell?_alloc_lt w (.view ⟨g, 0, none⟩ 5) ⟨b, 1, none⟩ hbk.lt).trans c1
      have HK := Lib.hid ((KeepK.refl K w).drew.alloc (fun i hi => (h1 i hi).1) (.view ⟨g, 0, none⟩ 5))
      clear hbk hown hne h1 hg hsh
      go_enter Try.func72, Try.ntmps72
      go_wp2
      go_region
      all_goals (go_wp2; go_ret; exact ⟨rfl, HK.out⟩)
    · have hSD : (Builtin.unsafeSliceData_ #[120] 162 #[.slice (some ⟨g, 0, none⟩) 0 cap]).run Try.prog w.drew = .ok (.pointer (some ⟨g, 0, none⟩)) w.drew :=
        Lib.run_unsafeSliceData_row _ _ _ _ _ _ hc
      have HK := Lib.hid ((KeepK.refl K w).drew)
      clear hbk hown hne h1 hg
      go_enter Try.func72, Try.ntmps72
      go_wp2
      go_region
      all_goals (go_wp2; go_ret; exact ⟨rfl, HK.out⟩)

def ReadPost (b : Nat) (s : ByteArray) (a n : Nat) (t : Int) (w : World) (e : Ending) (w' : World) : Prop :=
  ((readD t (s.data.toList.take (a + n)) a n = none ∧ e = .returned (.tuple #[.string ⟨#[]⟩, .int .i64 6])) ∨ ∃ d, readD t (s.data.toList.take (a + n)) a n = some d ∧ e = .returned (.tuple #[.string ⟨d.toArray⟩, .int .i64 0])) ∧ Rd w' b s (a + n) false ∧ But b w w'
def ReadCut (g : Nat) (S : ByteArray) (w1 : World) (x : Bs × (Nat × Bool)) (v9 : Value) (wx : World) : Prop :=
  v9 = .string ⟨x.1.toArray⟩ ∧ Rd wx g S x.2.1 x.2.2 ∧ KeepK (fun i => i < w1.heap.size ∧ i ≠ g) w1 wx ∧ x.2.1 ≤ S.size
theorem readM_len (t : Int) (l : Bs) (a n : Nat) (hn : n ≤ 1000000) : (readM t l a n).1.length ≤ 1000000 := by
  unfold readM
  cases hf : formN t with
  | none =>
    dsimp only
    have := rawM_len l (a, false) n
    omega
  | some f =>
    have h := formN_le hf
    dsimp only
    have h1 := rawM_len l (a, false) (2 * f.1)
    have h2 := namesM_len l f.2.1 (rawM l (a, false) (2 * f.1)).2
    have h3 := rawM_len l (namesM l f.2.1 (rawM l (a, false) (2 * f.1)).2).2 (4 * f.2.2)
    simp only [List.length_append]
    omega

set_option maxRecDepth 100000 in
set_option maxHeartbeats 16000000 in
theorem rdRead_any {w : World} {b : Nat} {s : ByteArray} {a : Nat} (t : Int) (n : Nat) (h : Rd w b s a false) (hs : s.size ≤ 1000000) (hn : a + n ≤ s.size) :
    Calls Try.prog 59 #[.pointer (some ⟨b, 0, none⟩), .int .u16 t, .int .i64 (n : Int)] w (ReadPost b s a n t w) := by
  have HP := Lib.hid (rPart_yes h n (by omega) hn)
  have HFO := Lib.hid (fun W => formOf_any t W)
  have HB := Lib.hid (And.intro hn (And.intro hs h.lt))
  have hnI : (n : Int) ≤ 1000000 := by omega
  clear h hs hn
  go_enter Try.func59, Try.ntmps59
  go_wp2_with (fail)
  with_reducible refine HP.out.mono ?_
  rintro e w1 ⟨g, S, rfl, hSd, hg, hp, hk, hgs⟩
  have HBD := Lib.hid (rBad_any hg)
  have hSs : S.size = a + n := by
    have h1 := congrArg List.length hSd
    simp at h1
    have := HB.out; omega
  have HD : RowKit.Hid (∀ e w', ((readD t S.data.toList a n = none ∧ e = .returned (.tuple #[.string ⟨#[]⟩, .int .i64 6])) ∨ ∃ d, readD t S.data.toList a n = some d ∧ e = .returned (.tuple #[.string ⟨d.toArray⟩, .int .i64 0])) → KeepK (fun i => i < w1.heap.size ∧ i ≠ g) w1 w' → ReadPost b s a n t w e w') := Lib.hid (by
    intro e w' h1 h2
    rw [hSd] at h1
    refine ⟨h1, hp.keepK h2 ⟨hp.lt, by have := HB.out.2.2; omega⟩, KeepK.trans hk (h2.mono fun i hi => ⟨Nat.lt_of_lt_of_le hi.1 hk.size, by have := hi.1; omega⟩)⟩)
  have hrl := readM_len t S.data.toList a n (by omega)
  have H1 := Lib.hid (And.intro hg (And.intro hSs hrl))
  clear hSd hg hp hk hSs hrl HP
  go_wp2_with (fail)
  with_reducible refine HBD.out.mono ?_
  rintro e wz ⟨rfl, rfl⟩
  clear HBD
  go_wp2_with (fail)
  with_reducible refine (HFO.out _).mono ?_
  rintro e w3 ⟨rfl, hb⟩
  have H3 := Lib.hid hb
  clear hb HFO
  obtain ⟨⟨⟨tw, nm, fo⟩, has⟩, hx⟩ : ∃ x, formT t = x := ⟨_, rfl⟩
  have hcase : (has = false ∧ readM t S.data.toList a n = rawM S.data.toList (a, false) n) ∨ (has = true ∧ (tw ≤ 3 ∧ nm ≤ 2 ∧ fo ≤ 5) ∧ formN t = some (tw, nm, fo)) := by
    unfold formT at hx
    cases hf : formN t with
    | none =>
      rw [hf] at hx
      injection hx with _ hx
      exact .inl ⟨hx.symm, by unfold readM; rw [hf]⟩
    | some f =>
      rw [hf] at hx
      injection hx with h1 hx
      subst h1
      exact .inr ⟨hx.symm, formN_le hf, rfl⟩
  rw [hx]
  unfold formV
  dsimp only
  have HCA := Lib.hid hcase
  clear hcase hx
  go_upto_if 23 with (fail)
  have hb3 := H3.out
  obtain ⟨V0, hV0⟩ : ∃ V0, w3.alloc (.cells #[.int .i64 (tw : Int), .int .i64 (nm : Int), .int .i64 (fo : Int)] 141) = V0 := ⟨_, rfl⟩
  obtain ⟨F, hF⟩ : ∃ F, w3.heap.size = F := ⟨_, rfl⟩
  have hbV : Below w1.heap.size w1 V0 := by rw [← hV0]; exact hb3.alloc hb3.size _
  have gF : Blk V0 F 141 #[.int .i64 (tw : Int), .int .i64 (nm : Int), .int .i64 (fo : Int)] := by rw [← hV0, ← hF]; exact Blk.new w3 _ _
  have gR : Rd V0 g S a false := Blk.below H1.out.1 hbV H1.out.1.lt
  have hFg : F ≠ g := by have := H1.out.1.lt; have := hb3.size; omega
  have hKV : KeepK (fun i => i < w1.heap.size ∧ i ≠ g) w1 V0 := KeepK.of_below hbV fun i hi => hi.1
  rw [hV0, hF]
  have H4 := Lib.hid (And.intro gF (And.intro gR (And.intro hFg (And.intro hKV hbV))))
  clear hb3 hV0 hF hbV gF gR hFg hKV
  go_cut [9] (fun v9 wx => ReadCut g S w1 (readM t S.data.toList a n) v9 wx)
  case first =>
    rcases HCA.out with ⟨rfl, hq⟩ | ⟨rfl, hle, hf⟩
    · have HRW := Lib.hid (raw_st (st := (a, false)) H4.out.2.1 n (by have := H1.out.2.1; have := HB.out; omega) (by have := H1.out.2.1; show a ≤ S.size; omega))
      have HQ := Lib.hid hq
      clear hq
      go_wp2_with (fail)
      with_reducible refine HRW.out.mono ?_
      rintro e w4 ⟨rfl, hr, hk, ha⟩
      have H5 := Lib.hid (And.intro hr (And.intro hk ha))
      clear hr hk ha HRW
      go_wp2_with (fail)
      go_meet
      case rel =>
        rw [HQ.out]
        exact ⟨rfl, H5.out.1, H4.out.2.2.2.1.trans (KeepK.mono H5.out.2.1 fun i hi => ⟨Nat.lt_of_lt_of_le hi.1 H4.out.2.2.2.2.size, hi.2⟩), H5.out.2.2⟩
    · have htI : (tw : Int) ≤ 3 := by omega
      have hnmI : (nm : Int) ≤ 2 := by omega
      have hfoI : (fo : Int) ≤ 5 := by omega
      obtain ⟨r1, hr1⟩ : ∃ r1, rawM S.data.toList (a, false) (2 * tw) = r1 := ⟨_, rfl⟩
      obtain ⟨l, hl⟩ : ∃ l, S.data.toList = l := ⟨_, rfl⟩
      have hM : readM t S.data.toList a n = (r1.1 ++ (namesM l nm r1.2).1 ++ (rawM l (namesM l nm r1.2).2 (4 * fo)).1, (rawM l (namesM l nm r1.2).2 (4 * fo)).2) := by unfold readM; rw [hf]; dsimp only; rw [hr1, hl]
      have hS10 : S.size ≤ 1000000 := by have := H1.out.2.1; have := HB.out; omega
      obtain ⟨bb, hbb⟩ : ∃ bb, V0.heap.size = bb := ⟨_, rfl⟩
      obtain ⟨V, hV⟩ : ∃ V, V0.alloc (.cells #[.pointer none, .slice none 0 0] 153) = V := ⟨_, rfl⟩
      have gB : Bd (fun i => i < V0.heap.size) V bb [] := by rw [← hV, ← hbb]; exact Bd.start V0
      have gF2 : Blk V F 141 #[.int .i64 (tw : Int), .int .i64 (nm : Int), .int .i64 (fo : Int)] := by rw [← hV]; exact H4.out.1.alloc _
      have gR2 : Rd V g S a false := by rw [← hV]; exact Blk.alloc H4.out.2.1 _
      have hK2 : KeepK (fun i => i < w1.heap.size ∧ i ≠ g) w1 V := by rw [← hV]; exact H4.out.2.2.2.1.alloc (fun i hi => Nat.lt_of_lt_of_le hi.1 H4.out.2.2.2.2.size) _
      have hgV : g < V0.heap.size := H4.out.2.1.lt
      have hFV : F < V0.heap.size := H4.out.1.lt
      have hw1V : w1.heap.size ≤ V0.heap.size := H4.out.2.2.2.2.size
      have hVs : V0.heap.size ≤ V.heap.size := by rw [← hV]; simp
      have q0 : V.cell? ⟨F, 0, none⟩ = some (.int .i64 (tw : Int)) := gF2.cell 0
      have HR1 := Lib.hid (raw_st (st := (a, false)) gR2 (2 * tw) (by omega) (by have := H1.out.2.1; show a ≤ S.size; omega))
      rw [hr1, show ((2 * tw : Nat) : Int) = 2 * (tw : Int) from by omega] at HR1
      have H5 := Lib.hid (And.intro gB (And.intro gF2 (And.intro hK2 (And.intro hgV (And.intro hFV (And.intro hw1V (And.intro hVs H4.out.2.2.1)))))))
      have HM := Lib.hid (And.intro hM (And.intro hl (And.intro hS10 (And.intro (show r1.1.length ≤ 6 by rw [← hr1]; have := rawM_len S.data.toList (a, false) (2 * tw); omega) hle))))
      clear hM hl hr1 hle hf gB gF2 gR2 hK2 hgV hFV hw1V hVs hS10
      go_upto_region 8 with (fail)
      clear hV hbb
      go_wp2_with (fail)
      with_reducible refine HR1.out.mono ?_
      rintro e w5 ⟨rfl, hr, hk, ha⟩
      have hB5 : Bd (fun i => i < V0.heap.size) w5 bb [] := H5.out.1.keepK hk ⟨H5.out.1.lt, fun e => (H5.out.1.1 g H5.out.2.2.2.1).2 e.symm⟩ (fun i hi hl => ⟨hl, fun e => hi (by rw [e]; exact H5.out.2.2.2.1)⟩)
      have HW1 := Lib.hid (bWriteString_any ⟨r1.1.toArray⟩ hB5 (by have := HM.out.2.2.2.1; show 0 + (r1.1.toArray).size ≤ _; simp; omega))
      have H6 := Lib.hid (And.intro hr (And.intro ha (And.intro (H5.out.2.1.keepK hk ⟨H5.out.2.1.lt, H5.out.2.2.2.2.2.2.2⟩) (H5.out.2.2.1.trans (KeepK.mono hk fun i hi => ⟨by have := H5.out.2.2.2.2.2.1; have := H5.out.2.2.2.2.2.2.1; omega, hi.2⟩)))))
      clear hr hk ha hB5 HR1
      go_wp2_with (fail)
      with_reducible refine HW1.out.mono ?_
      rintro e w6 ⟨rfl, hB6, hk6⟩
      rw [List.nil_append] at hB6
      have hF6 := H6.out.2.2.1.keepK hk6 H5.out.2.2.2.2.1
      have q1 : w6.cell? ⟨F, 1, none⟩ = some (.int .i64 (nm : Int)) := hF6.cell 1
      have H7 := Lib.hid (And.intro hB6 (And.intro (Blk.keepK H6.out.1 hk6 H5.out.2.2.2.1 : Rd w6 g S r1.2.1 r1.2.2) (And.intro hF6 (H6.out.2.2.2.trans (hk6.mono fun i hi => Nat.lt_of_lt_of_le hi.1 H5.out.2.2.2.2.2.1)))))
      clear hB6 hk6 hF6 q0 HW1
      go_wp2_with (fail)
      go_loopg [32] nm (fun gg v32 wr => ∃ k : Nat, v32 = .int .i64 (k : Int) ∧ Aside (gg + k = nm) ∧ Aside (Rd wr g S (namesM l k r1.2).2.1 (namesM l k r1.2).2.2 ∧ (namesM l k r1.2).2.1 ≤ S.size ∧ Bd (fun i => i < V0.heap.size) wr bb (r1.1 ++ (namesM l k r1.2).1) ∧ Blk wr F 141 #[.int .i64 (tw : Int), .int .i64 (nm : Int), .int .i64 (fo : Int)] ∧ KeepK (fun i => i < w1.heap.size ∧ i ≠ g) w1 wr))
      case atStart => exact ⟨0, rfl, rfl, H7.out.2.1, H6.out.2.1, by show Bd _ _ _ (r1.1 ++ []); rw [List.append_nil]; exact H7.out.1, H7.out.2.2.1, H7.out.2.2.2⟩
      case round =>
        obtain ⟨k, rfl, hg, hA⟩ := hrel
        by_cases hk : k < nm
        · have hkI : (k : Int) < (nm : Int) := by omega
          have HNA := Lib.hid (name_st hA.out.1 (by have := HM.out.2.2.1; omega) hA.out.2.1)
          rw [HM.out.2.1] at HNA
          have hsn := namesM_snoc l k r1.2
          have hnl := nameM_len l (namesM l k r1.2).2
          have hnl2 := namesM_len l k r1.2
          obtain ⟨x, hx⟩ : ∃ x, nameM l (namesM l k r1.2).2 = x := ⟨_, rfl⟩
          rw [hx] at HNA hsn hnl
          have HR := Lib.hid (And.intro hsn (And.intro hnl (And.intro hnl2 hk)))
          clear hsn hnl hnl2 hx hk
          go_wp2_with (fail)
          with_reducible refine HNA.out.mono ?_
          rintro e w7 ⟨rfl, hr, hk, ha⟩
          have hB7 : Bd (fun i => i < V0.heap.size) w7 bb (r1.1 ++ (namesM l k r1.2).1) := hA.out.2.2.1.keepK hk ⟨hA.out.2.2.1.lt, fun e => (hA.out.2.2.1.1 g H5.out.2.2.2.1).2 e.symm⟩ (fun i hi hl => ⟨hl, fun e => hi (by rw [e]; exact H5.out.2.2.2.1)⟩)
          have HW2 := Lib.hid (bWriteString_any ⟨x.1.toArray⟩ hB7 (by have := HR.out; have := HM.out.2.2.2; show (r1.1 ++ _).length + (x.1.toArray).size ≤ _; simp; omega))
          have H8 := Lib.hid (And.intro hr (And.intro ha (And.intro (hA.out.2.2.2.1.keepK hk ⟨hA.out.2.2.2.1.lt, H5.out.2.2.2.2.2.2.2⟩) (hA.out.2.2.2.2.trans (KeepK.mono hk fun i hi => ⟨Nat.lt_of_lt_of_le hi.1 hA.out.2.2.2.2.size, hi.2⟩)))))
          clear hr hk ha hB7 HNA
          go_wp2_with (fail)
          with_reducible refine HW2.out.mono ?_
          rintro e w8 ⟨rfl, hB8, hk8⟩
          rw [List.append_assoc] at hB8
          have H9 := Lib.hid (And.intro (Blk.keepK H8.out.1 hk8 H5.out.2.2.2.1 : Rd w8 g S x.2.1 x.2.2) (And.intro H8.out.2.1 (And.intro hB8 (And.intro (H8.out.2.2.1.keepK hk8 H5.out.2.2.2.2.1) (H8.out.2.2.2.trans (hk8.mono fun i hi => Nat.lt_of_lt_of_le hi.1 H5.out.2.2.2.2.2.1))))))
          clear hB8 hk8 HW2
          go_wp2_with (fail)
          go_roundg (nm - (k + 1))
          case measure => have := hg.out; have := HR.out.2.2.2; omega
          case rel => exact ⟨k + 1, by go_num, (by show _ = _; have := hg.out; have := HR.out.2.2.2; omega), by rw [HR.out.1]; exact H9.out⟩
        · have hkI : ¬ (k : Int) < (nm : Int) := by omega
          have hkn : k = nm := by have := hg.out; omega
          obtain ⟨y, hy⟩ : ∃ y, namesM l nm r1.2 = y := ⟨_, rfl⟩
          have hyl := namesM_len l nm r1.2
          rw [hy] at hyl
          have hA2 := hA.out
          rw [hkn, hy] at hA2
          have HR3 := Lib.hid (raw_st hA2.1 (4 * fo) (by have := HM.out.2.2.1; omega) hA2.2.1)
          rw [HM.out.2.1, show ((4 * fo : Nat) : Int) = 4 * (fo : Int) from by omega] at HR3
          obtain ⟨z, hz⟩ : ∃ z, rawM l y.2 (4 * fo) = z := ⟨_, rfl⟩
          have hzl := rawM_len l y.2 (4 * fo)
          rw [hz] at HR3 hzl
          have q2 : wr.cell? ⟨F, 2, none⟩ = some (.int .i64 (fo : Int)) := hA2.2.2.2.1.cell 2
          have hMM := HM.out.1
          rw [hy, hz] at hMM
          have HR := Lib.hid (And.intro hMM (And.intro hyl (And.intro hzl hA2)))
          clear hMM hyl hzl hA2 hkn hk hy hz q1
          go_wp2_with (fail)
          with_reducible refine HR3.out.mono ?_
          rintro e w7 ⟨rfl, hr, hk, ha⟩
          have hB7 : Bd (fun i => i < V0.heap.size) w7 bb (r1.1 ++ y.1) := HR.out.2.2.2.2.2.1.keepK hk ⟨HR.out.2.2.2.2.2.1.lt, fun e => (HR.out.2.2.2.2.2.1.1 g H5.out.2.2.2.1).2 e.symm⟩ (fun i hi hl => ⟨hl, fun e => hi (by rw [e]; exact H5.out.2.2.2.1)⟩)
          have HW2 := Lib.hid (bWriteString_any ⟨z.1.toArray⟩ hB7 (by have := HR.out.2.1; have := HR.out.2.2.1; have := HM.out.2.2.2; show (r1.1 ++ _).length + (z.1.toArray).size ≤ _; simp; omega))
          have H8 := Lib.hid (And.intro hr (And.intro ha (HR.out.2.2.2.2.2.2.2.trans (KeepK.mono hk fun i hi => ⟨Nat.lt_of_lt_of_le hi.1 HR.out.2.2.2.2.2.2.2.size, hi.2⟩))))
          clear hr hk ha hB7 HR3 q2
          go_wp2_with (fail)
          with_reducible refine HW2.out.mono ?_
          rintro e w8 ⟨rfl, hB8, hk8⟩
          have hB8' : Bd (fun i => i < V0.heap.size) w8 bb (r1.1 ++ y.1 ++ z.1) := hB8
          have H9 := Lib.hid (And.intro (Blk.keepK H8.out.1 hk8 H5.out.2.2.2.1 : Rd w8 g S z.2.1 z.2.2) (And.intro H8.out.2.1 (H8.out.2.2.trans (hk8.mono fun i hi => Nat.lt_of_lt_of_le hi.1 H5.out.2.2.2.2.2.1))))
          have HST : RowKit.Hid (Calls Try.prog 72 #[.pointer (some ⟨bb, 0, none⟩)] w8 fun e w' => e = .returned (.string ⟨(r1.1 ++ y.1 ++ z.1).toArray⟩) ∧ KeepK (fun i => i < V0.heap.size) w8 w') := Lib.hid (by
            by_cases h0 : r1.1 ++ y.1 ++ z.1 = []
            · rw [h0] at hB8' ⊢
              exact bString_none hB8'
            · exact bString_some hB8' h0)
          clear hB8 hB8' hk8 HW2
          go_wp2_with (fail)
          with_reducible refine HST.out.mono ?_
          rintro e w9 ⟨rfl, hk9⟩
          have H10 := Lib.hid hk9
          clear hk9 HST
          go_wp2_with (fail)
          go_meet
          case rel =>
            rw [HR.out.1]
            exact ⟨(by rw [← List.append_assoc]), (Blk.keepK H9.out.1 H10.out H5.out.2.2.2.1 : Rd w9 g S z.2.1 z.2.2), H9.out.2.2.trans (H10.out.mono fun i hi => Nat.lt_of_lt_of_le hi.1 H5.out.2.2.2.2.2.1), H9.out.2.1⟩
  case rest =>
    obtain ⟨rfl, hg, hk, ha⟩ := hcut
    obtain ⟨w4, rfl⟩ : ∃ w4, w4 = wc := ⟨_, rfl⟩
    have HDD := HD.out
    unfold readD at HDD
    have hml := H1.out.2.2
    have hSz := H1.out.2.1
    generalize readM t S.data.toList a n = x at hg ha HDD hml ⊢
    obtain ⟨D, p, bad⟩ := x
    dsimp only at hg ha HDD hml ⊢
    have hsl : S.data.toList.length = S.size := by simp
    rw [hsl] at HDD
    have HDX := Lib.hid HDD
    have HBD := Lib.hid (rBad_any hg)
    have HX := Lib.hid (And.intro hg (And.intro hk (And.intro ha (And.intro hml (show S.size ≤ 1000000 by have := HB.out; omega)))))
    clear HDD hk hml hsl HD HCA hSz
    cases bad with
    | true =>
      clear hg ha
      go_wp2_with (fail)
      with_reducible refine HBD.out.mono ?_
      rintro e wz ⟨rfl, rfl⟩
      go_wp2_with (fail)
      go_ret2
      exact HDX.out _ _ (.inl ⟨by rw [if_neg (by simp)], rfl⟩) HX.out.2.1
    | false =>
      have HLE := Lib.hid (rLeft_any hg (by have := HX.out; omega) ha)
      obtain ⟨q, hq⟩ : ∃ q, S.size - p = q := ⟨_, rfl⟩
      rw [hq] at HLE HDX
      clear hg ha
      by_cases h0 : q = 0
      · subst h0
        have HCK := Lib.hid (fun W => rdCheck_any t ⟨D.toArray⟩ (by show D.toArray.size ≤ _; have := HX.out.2.2.2.1; simp; omega) W)
        have hDd : (⟨D.toArray⟩ : ByteArray).data.toList = D := by simp
        rw [hDd] at HCK
        clear hDd hq
        cases hok : okD t D with
        | true =>
          have hc : chkD t D = 0 := by unfold chkD; rw [if_pos hok]
          rw [hc] at HCK
          have HO := Lib.hid hok
          clear hok hc
          go_wp2_with (fail)
          with_reducible refine HBD.out.mono ?_
          rintro e wz ⟨rfl, rfl⟩
          go_wp2_with (fail)
          refine HLE.out.mono ?_
          rintro e wz ⟨rfl, kk, rfl⟩
          go_wp2_with (fail)
          with_reducible refine (HCK.out _).mono ?_
          rintro e w9 ⟨rfl, hb9⟩
          have H9 := Lib.hid hb9
          clear hb9
          go_wp2_with (fail)
          go_ret2
          exact HDX.out _ _ (.inr ⟨D, by first | rw [if_pos ⟨trivial, trivial, HO.out⟩] | rw [if_pos ⟨rfl, rfl, HO.out⟩], rfl⟩) ((HX.out.2.1.drewN kk).trans (KeepK.of_below H9.out fun i hi => Nat.lt_of_lt_of_le hi.1 HX.out.2.1.size))
        | false =>
          have hc : chkD t D = 2 := by unfold chkD; rw [if_neg (by rw [hok]; decide)]
          rw [hc] at HCK
          have HO := Lib.hid hok
          clear hok hc
          go_wp2_with (fail)
          with_reducible refine HBD.out.mono ?_
          rintro e wz ⟨rfl, rfl⟩
          go_wp2_with (fail)
          refine HLE.out.mono ?_
          rintro e wz ⟨rfl, kk, rfl⟩
          go_wp2_with (fail)
          with_reducible refine (HCK.out _).mono ?_
          rintro e w9 ⟨rfl, hb9⟩
          have H9 := Lib.hid hb9
          clear hb9
          go_wp2_with (fail)
          go_ret2
          exact HDX.out _ _ (.inl ⟨by rw [if_neg (fun h => by have := h.2.2; rw [HO.out] at this; cases this)], rfl⟩) ((HX.out.2.1.drewN kk).trans (KeepK.of_below H9.out fun i hi => Nat.lt_of_lt_of_le hi.1 HX.out.2.1.size))
      · have hqI : (0 : Int) < (q : Int) := by omega
        have hqd : decide (0 < q) = true := by simp; omega
        have HQ := Lib.hid h0
        clear h0 hq
        go_wp2_with (fail)
        with_reducible refine HBD.out.mono ?_
        rintro e wz ⟨rfl, rfl⟩
        go_wp2_with (fail)
        refine HLE.out.mono ?_
        rintro e wz ⟨rfl, kk, rfl⟩
        go_wp2_with (fail)
        go_ret2
        exact HDX.out _ _ (.inl ⟨by rw [if_neg (fun h => HQ.out h.2.1)], rfl⟩) (HX.out.2.1.drewN kk)
end Go.Proofs.Ytgfpnkakglgokaa
