/- The walks of package rdata's cut, texts, look, Check, Names. Conditions: none. The walks of package rdata's texts, look, Check, Names. Conditions: none. The walk of package rdata's Check. Conditions: none. -/
import Derived.Test.YthnngndnpigjbaaGreatRdForm
import Derived.Test.YthnngndnpigjbaaGreatRef01
import Derived.Deep.RegionLaw
import Derived.Deep.RegionHeld3
namespace Go.Proofs.YthnngndnpigjbaaGreat
open Go.RowKit Go.Lib

def bsV (l : Bs) : Value := .string ⟨l.toArray⟩
theorem ba_eq {a : ByteArray} {l : Bs} (h : a.data.toList = l) : a = ⟨l.toArray⟩ := by subst h; rfl
/-- Data in parts, as a value. -/
def partsV (p : Bs × List Bs × Bs) (A : Option Addr) (c : Nat) : Value := .agg #[bsV p.1, .slice A p.2.1.length c, bsV p.2.2]
def noParts : Value := .agg #[.string ⟨#[]⟩, .slice none 0 0, .string ⟨#[]⟩]
theorem parts_cells : (Tryz.prog.info? 97).map (·.size) = some 3 := by kernel_rfl
def RdCutPost (q : Option (Bs × List Bs × Bs)) (w : World) (e : Ending) (w' : World) : Prop :=
  (q = none ∧ e = .returned (.tuple #[noParts, .bool false]) ∧ Below w.heap.size w w') ∨
  ∃ p A c, q = some p ∧ e = .returned (.tuple #[partsV p A c, .bool true]) ∧ Sl w' 1 (.slice A p.2.1.length c) p.2.1.length (strs p.2.1) ∧ (∀ i, (Value.slice A p.2.1.length c).ownBlock = some i → w.heap.size ≤ i) ∧ Below w.heap.size w w'
/-- The string that stands up to, and from, a place. -/
theorem split_at (s : ByteArray) (k : Nat) (hk : k ≤ s.size) : ∃ S1 S2 : ByteArray, S1.data.toList = s.data.toList.take k ∧ S2.data.toList = s.data.toList.drop k ∧
    (∀ W, (Instr.slice 9 (.string s) none (some (.int .i64 (k : Int))) none).run Tryz.prog W = .ok (.string S1) W) ∧ (∀ W, (Instr.slice 9 (.string s) (some (.int .i64 (k : Int))) none none).run Tryz.prog W = .ok (.string S2) W) := by
  refine ⟨s.extract 0 k, s.extract k s.size, by simp, ?_, fun W => ?_, fun W => ?_⟩
  · simp
    rw [List.take_of_length_le (by simp)]
  · have := run_slice_string_h (P := Tryz.prog) (w := W) (t := 9) (s := s) Tryz.underlying9 .i64 (k : Int) (by omega) (by omega)
    rw [this]
    rfl
  · have := run_slice_string_l (P := Tryz.prog) (w := W) (t := 9) (s := s) Tryz.underlying9 .i64 (k : Int) (by omega) (by omega)
    rw [this]
    rfl

theorem cut_none_short {f : Nat × Nat × Nat} {l : Bs} (h : l.length < 2 * f.1) : cutN f l = none := by unfold cutN; rw [if_pos h]
theorem cut_by {f : Nat × Nat × Nat} {l : Bs} (h : ¬ l.length < 2 * f.1) {ns : List Bs} {r : Bs} {k : Nat} (hq : namesN f.2.1 (l.drop (2 * f.1)) = (namesN k r).map (fun p => (ns ++ p.1, p.2))) :
    cutN f l = match namesN k r with
      | none => none
      | some p => if p.2.length = 4 * f.2.2 then some (l.take (2 * f.1), ns ++ p.1, p.2) else none := by
  unfold cutN
  rw [if_neg h, hq]
  cases namesN k r <;> rfl
theorem names_step {N : Nat} {l0 r : Bs} {ns : List Bs} {k : Nat} (h : namesN N l0 = (namesN (k + 1) r).map (fun p => (ns ++ p.1, p.2))) (h0 : nameLen r ≠ 0) :
    namesN N l0 = (namesN k (r.drop (nameLen r))).map (fun p => ((ns ++ [r.take (nameLen r)]) ++ p.1, p.2)) := by
  rw [h]
  conv => lhs; unfold namesN
  rw [if_neg h0]
  cases namesN k (r.drop (nameLen r)) <;> simp

theorem cut5 {w w4 w5 : World} {k c : Nat} {A : Option Addr} {xs : List Value} {u v5 : Value} {T T1 T2 T3 : TypeId} {q1 q2 q3 : Array Value}
    (hO : ∀ i, (Value.slice A k c).ownBlock = some i → w.heap.size + 3 ≤ i) (hb : Below w.heap.size w w4) (b1 : Blk w4 (w.heap.size + 2) T1 q1) (b2 : Blk w4 w.heap.size T2 q2) (b3 : Blk w4 (w.heap.size + 1) T3 q3)
    (hs5 : Sl w5 1 v5 (k + 1) (xs ++ [u])) (hg5 : (w4.drew.alloc (.cells #[u] T)).grownBy w5 (Value.slice A k c).ownBlock) (hv5 : v5.ownBlock = (Value.slice A k c).ownBlock ∨ v5.ownBlock = some (w4.drew.alloc (.cells #[u] T)).heap.size) :
    ∃ A5 c5, v5 = .slice A5 (k + 1) c5 ∧ (Sl w5 1 (.slice A5 (k + 1) c5) (k + 1) (xs ++ [u]) ∧ (∀ i, (Value.slice A5 (k + 1) c5).ownBlock = some i → w.heap.size + 3 ≤ i) ∧ Blk w5 (w.heap.size + 2) T1 q1 ∧ Blk w5 w.heap.size T2 q2 ∧ Blk w5 (w.heap.size + 1) T3 q3 ∧ Below w.heap.size w w5) := by
  obtain ⟨A5, c5, rfl, _, _⟩ := hs5.shape
  have hz := hb.size
  have hlt := b1.lt
  have hK : KeepK (fun i => i < w.heap.size + 3) w4 w5 := (((KeepK.refl (fun i => i < w.heap.size + 3) w4).drew).alloc (fun i hi => by have : i < w.heap.size + 3 := hi; show i < w4.heap.size; omega) _).grown hg5 (fun i hi => by have : i < w.heap.size + 3 := hi; simp; omega) (fun i hi e => by
    have h1 := hO i e.symm
    have : i < w.heap.size + 3 := hi
    omega)
  refine ⟨A5, c5, rfl, hs5, fun i hi => ?_, b1.keepK hK (by show _ < _; omega), b2.keepK hK (by show _ < _; omega), b3.keepK hK (by show _ < _; omega), hb.trans ((hK.mono fun i hi => ?_).below fun i hi => hi)⟩
  · rcases hv5 with e | e
    · exact hO i (e.symm.trans hi)
    · rw [hi] at e
      have : i = w4.heap.size + 1 := by simpa using e
      omega
  · have : i < w.heap.size := hi
    show i < w.heap.size + 3; omega

set_option maxRecDepth 100000 in
set_option maxHeartbeats 8000000 in
theorem rdCut_any (f : Nat × Nat × Nat) (hf : f.1 ≤ 3 ∧ f.2.1 ≤ 2 ∧ f.2.2 ≤ 5) (s : ByteArray) (hs : s.size ≤ 140737488355328) (w : World) :
    Calls Tryz.prog 66 #[formV f, .string s] w (RdCutPost (cutN f s.data.toList) w) := by
  obtain ⟨i0, hi0, hz0, hz1, hz2⟩ := info_parts info_str
  obtain ⟨tw, nm, fo⟩ := f
  dsimp only at hf
  unfold formV
  dsimp only
  have hsI : (s.size : Int) ≤ 140737488355328 := by omega
  have htI : (tw : Int) ≤ 3 := by omega
  have hnI : (nm : Int) ≤ 2 := by omega
  have hfI : (fo : Int) ≤ 5 := by omega
  obtain ⟨l, hl⟩ : ∃ l, s.data.toList = l := ⟨_, rfl⟩
  have hll : l.length = s.size := by rw [← hl]; simp
  rw [hl]
  have HL := Lib.hid (And.intro hl (And.intro hll (And.intro hf hs)))
  by_cases hsh : s.size < 2 * tw
  · have hI : (s.size : Int) < 2 * (tw : Int) := by omega
    have HC := Lib.hid (cut_none_short (f := (tw, nm, fo)) (l := l) (by rw [hll]; exact hsh))
    clear hl hll hf hsh hs
    go_enter Tryz.func66, Tryz.ntmps66
    go_wp2_with (fail)
    refine bodyPost_ret (res_ct rfl _ _ (w.heap.size + 1) 97 #[.string ⟨#[]⟩, .slice none 0 0, .string ⟨#[]⟩] _ rfl (heap_alloc2_new _ _ _) Tryz.underlying97 rfl parts_cells) rfl ?_
    exact .inl ⟨HC.out, rfl, ((Below.refl _ _).alloc (Nat.le_refl _) _).alloc (by simp) _⟩
  · have hI : ¬ (s.size : Int) < 2 * (tw : Int) := by omega
    obtain ⟨S1, S2, h1, h2, hr1, hr2⟩ := split_at s (2 * tw) (by omega)
    have hcast : ((2 * tw : Nat) : Int) = 2 * (tw : Int) := by omega
    rw [hcast] at hr1 hr2
    rw [hl] at h1 h2
    have hS2s : S2.size ≤ s.size := by
      have h3 := congrArg List.length h2
      have h4 : S2.data.toList.length = S2.size := by simp
      rw [h4, List.length_drop] at h3
      omega
    have HS := Lib.hid (And.intro h1 (And.intro h2 (And.intro hsh hS2s)))
    clear hl hll hf hsh hs h1 h2 hcast hS2s
    go_enter Tryz.func66, Tryz.ntmps66
    go_wp2_with (fail)
    have hB0 : Blk ((w.alloc (.cells #[.int .i64 (tw : Int), .int .i64 (nm : Int), .int .i64 (fo : Int)] 95)).alloc (.cells #[.string ⟨#[]⟩, .slice none 0 0, .string ⟨#[]⟩] 97)) w.heap.size 95 #[.int .i64 (tw : Int), .int .i64 (nm : Int), .int .i64 (fo : Int)] := (Blk.new _ _ _).alloc _
    have hB1 := heap_alloc2_new w (.cells #[.int .i64 (tw : Int), .int .i64 (nm : Int), .int .i64 (fo : Int)] 95) (.cells #[.string ⟨#[]⟩, .slice none 0 0, .string ⟨#[]⟩] 97)
    have hb1 : Below w.heap.size w ((w.alloc (.cells #[.int .i64 (tw : Int), .int .i64 (nm : Int), .int .i64 (fo : Int)] 95)).alloc (.cells #[.string ⟨#[]⟩, .slice none 0 0, .string ⟨#[]⟩] 97)) := ((Below.refl _ _).alloc (Nat.le_refl _) _).alloc (by simp) _
    have hzW : ((w.alloc (.cells #[.int .i64 (tw : Int), .int .i64 (nm : Int), .int .i64 (fo : Int)] 95)).alloc (.cells #[.string ⟨#[]⟩, .slice none 0 0, .string ⟨#[]⟩] 97)).heap.size = w.heap.size + 2 := by simp
    generalize (w.alloc (.cells #[.int .i64 (tw : Int), .int .i64 (nm : Int), .int .i64 (fo : Int)] 95)).alloc (.cells #[.string ⟨#[]⟩, .slice none 0 0, .string ⟨#[]⟩] 97) = W at hB0 hB1 hb1 hzW ⊢
    have hN2 := Blk.new W 97 #[.string S1, .slice none 0 0, .string ⟨#[]⟩]
    rw [hzW] at hN2
    have H0 := Lib.hid (And.intro (hB0.alloc (.cells #[.string S1, .slice none 0 0, .string ⟨#[]⟩] 97)) (And.intro (Blk.alloc hB1 (.cells #[.string S1, .slice none 0 0, .string ⟨#[]⟩] 97)) (And.intro hN2 (hb1.alloc (by omega) (.cells #[.string S1, .slice none 0 0, .string ⟨#[]⟩] 97)))))
    have HZ := Lib.hid hzW
    clear hB0 hB1 hb1 hN2
    clear hzW
    rw [show w.heap.size + 1 + 1 = w.heap.size + 2 from rfl]
    go_loopg [7, 29] nm (fun gg v7 v29 wr => ∃ (g0 k : Nat) (rest : ByteArray) (ns : List Bs) (A : Option Addr) (c : Nat), v7 = .string rest ∧ v29 = .int .i64 (k : Int) ∧ Aside (gg = g0 ∧ g0 + k = nm ∧ ns.length = k ∧ namesN nm (l.drop (2 * tw)) = (namesN g0 rest.data.toList).map (fun p => (ns ++ p.1, p.2)) ∧ rest.size ≤ s.size) ∧
      Aside (Blk wr (w.heap.size + 2) 97 #[.string S1, .slice A k c, .string ⟨#[]⟩] ∧ Blk wr w.heap.size 95 #[.int .i64 (tw : Int), .int .i64 (nm : Int), .int .i64 (fo : Int)] ∧ Blk wr (w.heap.size + 1) 97 #[.string ⟨#[]⟩, .slice none 0 0, .string ⟨#[]⟩]) ∧
      Aside (Sl wr 1 (.slice A k c) k (strs ns)) ∧ Aside (∀ i, (Value.slice A k c).ownBlock = some i → w.heap.size + 3 ≤ i) ∧ Aside (Below w.heap.size w wr))
    case atStart => exact ⟨nm, 0, S2, [], none, 0, rfl, rfl, ⟨rfl, by omega, rfl, by rw [HS.out.2.1]; cases namesN nm (l.drop (2 * tw)) <;> rfl, HS.out.2.2.2⟩, ⟨H0.out.2.2.1, H0.out.1, H0.out.2.1⟩, Sl.nil _ _, (by show ∀ i, _ → _; intro i hi; cases hi), H0.out.2.2.2⟩
    case round =>
      obtain ⟨g0, k, rest, ns, A, c, rfl, rfl, hg, hB, hS, hO, hb⟩ := hrel
      by_cases hk : k < nm
      · have hkI : (k : Int) < (nm : Int) := by omega
        obtain ⟨g', rfl⟩ : ∃ g', g0 = g' + 1 := ⟨g0 - 1, by have := hg.out.2.1; omega⟩
        have HF := Lib.hid (first_any rest (by have := hg.out.2.2.2.2; have := HL.out.2.2.2; omega) wr)
        have a0 := hB.out.2.1.cell 1
        obtain ⟨r, hr⟩ : ∃ r, rest.data.toList = r := ⟨_, rfl⟩
        rw [hr] at HF
        have hrs : r.length = rest.size := by rw [← hr]; simp
        by_cases h0 : nameLen r = 0
        · rw [h0] at HF
          have hq : cutN (tw, nm, fo) l = none := by
            have h1 := hg.out.2.2.2.1
            rw [hr] at h1
            rw [cut_by (f := (tw, nm, fo)) (by rw [HL.out.2.1]; exact HS.out.2.2.1) h1]
            unfold namesN
            rw [if_pos h0]
          have HQ := Lib.hid hq
          have HR := Lib.hid (And.intro hr (And.intro hrs hk))
          clear hr hrs hk h0 hq
          go_wp2_with (fail)
          with_reducible refine HF.out.mono ?_
          rintro e w4 ⟨rfl, hb4⟩
          have hb04 := hb.out.trans (hb4.mono hb.out.size)
          have hB4 := hB.out.2.2.below hb4 hB.out.2.2.lt
          have d0 := hB4.cell 0
          have d1 := hB4.cell 1
          have d2 := hB4.cell 2
          have p0 := hB4.frozen 0
          have p1 := hB4.frozen 1
          have p2 := hB4.frozen 2
          have H4 := Lib.hid (And.intro hb04 hB4)
          clear hb4 hb04 hB4 a0
          go_wp2_with (fail)
          refine bodyPost_ret (res_ct rfl _ _ (w.heap.size + 1) 97 #[.string ⟨#[]⟩, .slice none 0 0, .string ⟨#[]⟩] _ rfl (by have h := ((H4.out.2.set_ 0 (.string ⟨#[]⟩)).set_ 1 (.slice none 0 0)).set_ 2 (.string ⟨#[]⟩); simpa using h) Tryz.underlying97 rfl parts_cells) rfl ?_
          exact .inl ⟨HQ.out, rfl, ((H4.out.1.setCell (by show w.heap.size ≤ w.heap.size + 1; omega) _).setCell (by show w.heap.size ≤ w.heap.size + 1; omega) _).setCell (by show w.heap.size ≤ w.heap.size + 1; omega) _⟩
        · obtain ⟨m, hm⟩ : ∃ m, nameLen r = m := ⟨_, rfl⟩
          have hst := names_step (by have h1 := hg.out.2.2.2.1; rw [hr] at h1; exact h1) h0
          have hni := nameLen_is hm (by omega)
          rw [hm] at HF hst
          obtain ⟨T1, T2, t1, t2, hr3, hr4⟩ := split_at rest m (by omega)
          rw [hr] at t1 t2
          have hmI : ((m : Int) == 0) = false := by simp; omega
          have hmI2 : (m : Int) ≤ (rest.size : Int) := by omega
          have hT1 : T1 = ⟨(r.take m).toArray⟩ := ba_eq t1
          have hT2 : T2.size ≤ s.size := by
            have h1 := congrArg List.length t2
            have h2 : T2.data.toList.length = T2.size := by simp
            rw [h2, List.length_drop] at h1
            have := hg.out.2.2.2.2
            omega
          have hrsz : (rest.size : Int) ≤ 140737488355328 := by have := hg.out.2.2.2.2; have := HL.out.2.2.2; omega
          have HR := Lib.hid (And.intro hst (And.intro t2 (And.intro hT2 (And.intro hk hT1))))
          clear hr hrs hk h0 hm hst hni t1 t2 hT2 hT1
          go_wp2_with (fail)
          with_reducible refine HF.out.mono ?_
          rintro e w4 ⟨rfl, hb4⟩
          have hb04 := hb.out.trans (hb4.mono hb.out.size)
          have hB4 := hB.out.1.below hb4 hB.out.1.lt
          have d1 := hB4.cell 1
          have p1 := hB4.frozen 1
          have hsz4 := hb04.size
          have HSL := Lib.hid ((hS.out.below hb4 fun i hi => hS.out.lt i hi).drew.alloc (.cells #[.string T1] 9))
          have HSR := Lib.hid (src_new (P := Tryz.prog) Tryz.underlying34 w4.drew 9 (.string T1) rfl)
          have H4 := Lib.hid (And.intro hb04 (And.intro hB4 (And.intro (hB.out.2.1.below hb4 hB.out.2.1.lt) (hB.out.2.2.below hb4 hB.out.2.2.lt))))
          have hltB : w.heap.size + 2 < w4.heap.size := hB4.lt
          have d1' := (World.cell?_alloc_lt w4.drew (.cells #[.string T1] 9) ⟨w.heap.size + 2, 1, none⟩ hltB).trans d1
          have hk2 : k ≤ 2 := by have := hg.out; have := HL.out.2.2.1; omega
          have HK2 := Lib.hid hk2
          clear hb4 hb04 hB4 a0 hk2
          go_wp2_with (fail)
          go_region_law (refine step_append_sl _ (by rfl) (.tmp 37) (.tmp 41) 34 34 rfl 9 i0 (.string ⟨#[]⟩) 1 16 Tryz.underlying34 hi0 hz0 hz1 hz2 rfl (.slice A k c) k _ rfl HSL.out (.slice (some ⟨w4.heap.size, 0, none⟩) 1 1) rfl 1 _ HSR.out (by have := HK2.out; unfold maxLen; omega) (by have := HK2.out; omega) ?_; intro v5 w5 hs5 hg5 hv5; obtain ⟨A5, c5, rfl, h5⟩ := cut5 hO.out H4.out.1 H4.out.2.1 H4.out.2.2.1 H4.out.2.2.2 hs5 hg5 hv5; have e5 := h5.2.2.1.cell 1; have q5 := h5.2.2.1.frozen 1; have H5 := Lib.hid h5; clear h5 hs5 hg5 hv5)
          all_goals
            have h1 := H5.out.2.2.1.set_ 1 (.slice A5 (k + 1) c5)
            have H6 := Lib.hid (And.intro h1 (And.intro (H5.out.2.2.2.1.far (p := ⟨w.heap.size + 2, 1, none⟩) (by show w.heap.size ≠ w.heap.size + 2; omega) (.slice A5 (k + 1) c5)) (And.intro (H5.out.2.2.2.2.1.far (p := ⟨w.heap.size + 2, 1, none⟩) (by show w.heap.size + 1 ≠ w.heap.size + 2; omega) (.slice A5 (k + 1) c5)) (And.intro (H5.out.1.far (p := ⟨w.heap.size + 2, 1, none⟩) (fun g hg => by have := H5.out.2.1 g hg; show g ≠ w.heap.size + 2; omega) (.slice A5 (k + 1) c5)) (H5.out.2.2.2.2.2.setCell (p := ⟨w.heap.size + 2, 1, none⟩) (by show w.heap.size ≤ w.heap.size + 2; omega) (.slice A5 (k + 1) c5))))))
            clear h1 d1 d1' p1 e5 q5 hsz4 hltB
            go_wp2_with (fail)
            go_roundg g'
            case measure => have := hg.out; omega
            case rel => exact ⟨g', k + 1, T2, ns ++ [r.take m], A5, c5, rfl, by go_num, ⟨rfl, by have := hg.out.2.1; omega, by rw [List.length_append, hg.out.2.2.1]; rfl, by rw [HR.out.2.1]; exact HR.out.1, HR.out.2.2.1⟩, ⟨by have := H6.out.1; simpa using this, H6.out.2.1, H6.out.2.2.1⟩, (by show Sl _ _ _ _ _; rw [strs_snoc, ← HR.out.2.2.2.2]; exact H6.out.2.2.2.1), H5.out.2.1, H6.out.2.2.2.2⟩
      · have hkI : ¬ (k : Int) < (nm : Int) := by omega
        have hk0 : k = nm := by have := hg.out.2.1; omega
        have hg0 : g0 = 0 := by have := hg.out.2.1; omega
        subst hg0
        have hq := hg.out.2.2.2.1
        have hcut := cut_by (f := (tw, nm, fo)) (by rw [HL.out.2.1]; exact HS.out.2.2.1) hq
        unfold namesN at hcut
        dsimp only at hcut
        rw [List.append_nil] at hcut
        have hrs : rest.data.toList.length = rest.size := by simp
        rw [hrs] at hcut
        have a2 := hB.out.2.1.cell 2
        have d0 := hB.out.2.2.cell 0
        have d1 := hB.out.2.2.cell 1
        have d2 := hB.out.2.2.cell 2
        have p0 := hB.out.2.2.frozen 0
        have p1 := hB.out.2.2.frozen 1
        have p2 := hB.out.2.2.frozen 2
        have b0 := hB.out.1.cell 0
        have b1 := hB.out.1.cell 1
        have b2 := hB.out.1.cell 2
        have s2 := hB.out.1.frozen 2
        by_cases h4 : rest.size = 4 * fo
        · rw [if_pos h4] at hcut
          have h4I : ((rest.size : Int) != 4 * (fo : Int)) = false := by simp; omega
          have HC := Lib.hid hcut
          clear hq hcut hrs h4 hk hk0
          go_wp2_with (fail)
          have hBF : Blk ((((wr.setCell ⟨w.heap.size + 2, 2, none⟩ (.string rest)).setCell ⟨w.heap.size + 1, 0, none⟩ (.string S1)).setCell ⟨w.heap.size + 1, 1, none⟩ (.slice A k c)).setCell ⟨w.heap.size + 1, 2, none⟩ (.string rest)) (w.heap.size + 1) 97 #[.string S1, .slice A k c, .string rest] := by
            have h := (((hB.out.2.2.far (p := ⟨w.heap.size + 2, 2, none⟩) (by show w.heap.size + 1 ≠ w.heap.size + 2; omega) (.string rest)).set_ 0 (.string S1)).set_ 1 (.slice A k c)).set_ 2 (.string rest)
            simpa using h
          have hSF := (((hS.out.far (p := ⟨w.heap.size + 2, 2, none⟩) (fun g hg => by have := hO.out g hg; show g ≠ w.heap.size + 2; omega) (.string rest)).far (p := ⟨w.heap.size + 1, 0, none⟩) (fun g hg => by have := hO.out g hg; show g ≠ w.heap.size + 1; omega) (.string S1)).far (p := ⟨w.heap.size + 1, 1, none⟩) (fun g hg => by have := hO.out g hg; show g ≠ w.heap.size + 1; omega) (.slice A k c)).far (p := ⟨w.heap.size + 1, 2, none⟩) (fun g hg => by have := hO.out g hg; show g ≠ w.heap.size + 1; omega) (.string rest)
          have hbF := (((hb.out.setCell (p := ⟨w.heap.size + 2, 2, none⟩) (by show w.heap.size ≤ w.heap.size + 2; omega) (.string rest)).setCell (p := ⟨w.heap.size + 1, 0, none⟩) (by show w.heap.size ≤ w.heap.size + 1; omega) (.string S1)).setCell (p := ⟨w.heap.size + 1, 1, none⟩) (by show w.heap.size ≤ w.heap.size + 1; omega) (.slice A k c)).setCell (p := ⟨w.heap.size + 1, 2, none⟩) (by show w.heap.size ≤ w.heap.size + 1; omega) (.string rest)
          refine bodyPost_ret (res_ct rfl _ _ (w.heap.size + 1) 97 #[.string S1, .slice A k c, .string rest] _ rfl hBF Tryz.underlying97 rfl parts_cells) rfl ?_
          have hnl := hg.out.2.2.1
          refine .inr ⟨(l.take (2 * tw), ns, rest.data.toList), A, c, HC.out, ?_, ?_, ?_, hbF⟩
          · unfold partsV bsV
            dsimp only
            rw [hnl, ← ba_eq HS.out.1]
            rfl
          · dsimp only
            rw [hnl]
            exact hSF
          · dsimp only
            rw [hnl]
            exact fun i hi => by have := hO.out i hi; omega
        · rw [if_neg h4] at hcut
          have h4I : ((rest.size : Int) != 4 * (fo : Int)) = true := by simp; omega
          have HC := Lib.hid hcut
          clear hq hcut hrs h4 hk hk0
          go_wp2_with (fail)
          refine bodyPost_ret (res_ct rfl _ _ (w.heap.size + 1) 97 #[.string ⟨#[]⟩, .slice none 0 0, .string ⟨#[]⟩] _ rfl (by have h := ((hB.out.2.2.set_ 0 (.string ⟨#[]⟩)).set_ 1 (.slice none 0 0)).set_ 2 (.string ⟨#[]⟩); simpa using h) Tryz.underlying97 rfl parts_cells) rfl ?_
          exact .inl ⟨HC.out, rfl, ((hb.out.setCell (by show w.heap.size ≤ w.heap.size + 1; omega) _).setCell (by show w.heap.size ≤ w.heap.size + 1; omega) _).setCell (by show w.heap.size ≤ w.heap.size + 1; omega) _⟩
end Go.Proofs.YthnngndnpigjbaaGreat

namespace Go.Proofs.YthnngndnpigjbaaGreat
open Go.RowKit Go.Lib

def TextsPost (q : Option (List Bs)) (w : World) (e : Ending) (w' : World) : Prop :=
  (q = none ∧ e = .returned (.tuple #[.slice none 0 0, .bool false]) ∧ Below w.heap.size w w') ∨
  ∃ ts A c, q = some ts ∧ e = .returned (.tuple #[.slice A ts.length c, .bool true]) ∧ Sl w' 1 (.slice A ts.length c) ts.length (strs ts) ∧ (∀ i, (Value.slice A ts.length c).ownBlock = some i → w.heap.size ≤ i) ∧ Below w.heap.size w w'
theorem textsF_cons (f : Nat) (k : UInt8) (t : Bs) : textsF (f + 1) (k :: t) = if k.toNat ≤ t.length then (textsF f (t.drop k.toNat)).map (t.take k.toNat :: ·) else none := rfl
theorem texts_step {F : Option (List Bs)} {ts : List Bs} {k : UInt8} {t : Bs} (h : F = (textsF (k :: t).length (k :: t)).map (ts ++ ·)) (hk : k.toNat ≤ t.length) :
    F = (textsF (t.drop k.toNat).length (t.drop k.toNat)).map ((ts ++ [t.take k.toNat]) ++ ·) := by
  rw [h, List.length_cons, textsF_cons, if_pos hk, textsF_more t.length (t.drop k.toNat).length (t.drop k.toNat) (by simp) (Nat.le_refl _)]
  cases textsF (t.drop k.toNat).length (t.drop k.toNat) <;> simp
theorem texts_stop {F : Option (List Bs)} {ts : List Bs} {k : UInt8} {t : Bs} (h : F = (textsF (k :: t).length (k :: t)).map (ts ++ ·)) (hk : ¬ k.toNat ≤ t.length) : F = none := by
  rw [h, List.length_cons, textsF_cons, if_neg hk]
  rfl
/-- A middle piece of a string. -/
theorem mid_at (s : ByteArray) (a b : Nat) (h : a ≤ b) (hb : b ≤ s.size) : ∃ S : ByteArray, S.data.toList = (s.data.toList.take b).drop a ∧ (∀ W, (Instr.slice 9 (.string s) (some (.int .i64 (a : Int))) (some (.int .i64 (b : Int))) none).run Tryz.prog W = .ok (.string S) W) := by
  refine ⟨s.extract a b, ?_, fun W => slice_nat (P := Tryz.prog) Tryz.underlying9 s a b (a : Int) (b : Int) rfl rfl h hb W⟩
  simp [List.drop_take]
theorem ba_nil {s : ByteArray} (h : s.data.toList = []) : s = ⟨#[]⟩ := ba_eq h

set_option maxRecDepth 100000 in
set_option maxHeartbeats 4000000 in
theorem texts_any (s : ByteArray) (hs : s.size ≤ 1000000) (w : World) : Calls Tryz.prog 64 #[.string s] w (TextsPost (textsN s.data.toList) w) := by
  obtain ⟨i0, hi0, hz0, hz1, hz2⟩ := info_parts info_str
  obtain ⟨l, hl⟩ : ∃ l, s.data.toList = l := ⟨_, rfl⟩
  have hll : l.length = s.size := by rw [← hl]; simp
  rw [hl]
  have HL := Lib.hid (And.intro hl (And.intro hll hs))
  clear hl hll hs
  go_enter Tryz.func64, Tryz.ntmps64
  go_wp2_with (fail)
  go_loopg [0, 4] l.length (fun gg v0 v4 wr => ∃ (rest : ByteArray) (ts : List Bs) (n : Nat) (A : Option Addr) (c : Nat), v0 = .string rest ∧ v4 = .slice A n c ∧ Aside (gg = rest.size ∧ ts.length = n ∧ textsF l.length l = (textsF rest.data.toList.length rest.data.toList).map (ts ++ ·) ∧ rest.size + n ≤ 1000000) ∧
    Aside (Sl wr 1 (.slice A n c) n (strs ts)) ∧ Aside ((∀ i, (Value.slice A n c).ownBlock = some i → w.heap.size ≤ i) ∧ (n = 0 → A = none ∧ c = 0)) ∧ Aside (Below w.heap.size w wr))
  case atStart => exact ⟨s, [], 0, none, 0, rfl, rfl, ⟨HL.out.2.1, rfl, by rw [HL.out.1]; cases textsF l.length l <;> rfl, HL.out.2.2⟩, Sl.nil _ _, ⟨(fun i hi => by cases hi), (fun _ => ⟨rfl, rfl⟩)⟩, Below.refl _ _⟩
  case round =>
    obtain ⟨rest, ts, n, A, c, rfl, rfl, hg, hS, hO, hb⟩ := hrel
    obtain ⟨r, hr⟩ : ∃ r, rest.data.toList = r := ⟨_, rfl⟩
    have hrs : r.length = rest.size := by rw [← hr]; simp
    have hF := hg.out.2.2.1
    rw [hr] at hF
    cases r with
    | nil =>
      have hre := ba_nil hr
      subst hre
      have hFF : textsN l = if ts = [] then none else some ts := by
        unfold textsN
        rw [hF]
        simp [textsF]
      have hnI : (n : Int) ≤ 1000000 := by have := hg.out; omega
      by_cases h0 : n = 0
      · have ht : ts = [] := List.eq_nil_of_length_eq_zero (by rw [hg.out.2.1]; exact h0)
        rw [if_pos ht] at hFF
        obtain ⟨rfl, rfl⟩ := hO.out.2 h0
        have hd : decide (0 < n) = false := by simp [h0]
        have hnz := h0
        subst hnz
        have HR := Lib.hid hFF
        clear hr hrs hF hFF ht h0
        go_wp2_with (fail)
        go_ret2
        exact .inl ⟨HR.out, rfl, hb.out⟩
      · have ht : ts ≠ [] := fun e => h0 (by rw [← hg.out.2.1, e]; rfl)
        rw [if_neg ht] at hFF
        have hd : decide (0 < n) = true := by simp; omega
        have HR := Lib.hid hFF
        clear hr hrs hF hFF h0 ht
        go_wp2_with (fail)
        go_ret2
        refine .inr ⟨ts, A, c, HR.out, ?_, ?_, ?_, hb.out⟩
        · rw [hg.out.2.1]; rfl
        · rw [hg.out.2.1]; exact hS.out
        · rw [hg.out.2.1]; exact hO.out.1
    | cons k t =>
      have hpos : 0 < rest.size := by rw [← hrs]; simp
      have hb0 : (rest[0]'hpos).toNat = k.toNat := by
        have h1 := byte_get rest 0 hpos
        rw [hr] at h1
        have h2 : k = rest[0] := Option.some.inj h1
        rw [← h2]
      obtain ⟨m, hm⟩ : ∃ m, k.toNat = m := ⟨_, rfl⟩
      rw [hm] at hb0
      have hm255 : (m : Int) ≤ 255 := by have := k.toNat_lt; omega
      have hne : rest.toList.isEmpty = false := by rw [ByteArray.toList_eq, hr]; rfl
      have hne2 : ¬ rest.toList = [] := by rw [ByteArray.toList_eq, hr]; simp
      have hrI : (rest.size : Int) ≤ 1000000 := by have := hg.out.2.2.2; omega
      by_cases hk : m ≤ t.length
      · have hkI : ¬ (rest.size : Int) < 1 + (m : Int) := by rw [← hrs]; simp; omega
        have hle : 1 + m ≤ rest.size := by rw [← hrs]; simp; omega
        obtain ⟨T1, t1, hr1⟩ := mid_at rest 1 (1 + m) (by omega) hle
        obtain ⟨_, T2, _, t2, _, hr2⟩ := split_at rest (1 + m) hle
        have hcast : ((1 + m : Nat) : Int) = 1 + (m : Int) := by omega
        rw [hcast] at hr1 hr2
        rw [show ((1 : Nat) : Int) = 1 from rfl] at hr1
        rw [hr, Nat.add_comm, List.take_succ_cons, List.drop_succ_cons, List.drop_zero] at t1
        rw [hr, Nat.add_comm, List.drop_succ_cons] at t2
        have hst := texts_step hF (by rw [hm]; exact hk)
        rw [hm, ← t1, ← t2] at hst
        have hT2 : T2.size + (1 + m) = rest.size := by
          have h1 := congrArg List.length t2
          have h2 : T2.data.toList.length = T2.size := by simp
          rw [h2, List.length_drop] at h1
          simp at hrs; omega
        have HSL := Lib.hid (hS.out.alloc (.cells #[.string T1] 9))
        have HSR := Lib.hid (src_new (P := Tryz.prog) Tryz.underlying34 wr 9 (.string T1) rfl)
        have HR := Lib.hid (And.intro hst (And.intro hT2 (show n ≤ 1000000 by have := hg.out.2.2.2; omega)))
        clear hr hrs hF hst hT2 t1 t2 hk hm hle hcast
        go_wp2_with (at_builtin; go_must (refine wpList_append_sl _ rfl (.tmp 16) (.tmp 20) 34 34 rfl 9 i0 (.string ⟨#[]⟩) 1 16 Tryz.underlying34 hi0 hz0 hz1 hz2 rfl (.slice A n c) n _ rfl HSL.out _ rfl 1 _ HSR.out (by have := HR.out.2.2; unfold maxLen; omega) (by have := HR.out.2.2; omega) ?_); intro v5 w5 hs5 hg5 hv5; obtain ⟨A5, c5, rfl, _, _⟩ := hs5.shape; have H5 := Lib.hid (And.intro hs5 (And.intro hg5 hv5)); clear hs5 hg5 hv5)
        go_roundg T2.size
        case measure => have := hg.out.1; have := HR.out.2.1; omega
        case rel => exact ⟨T2, ts ++ [T1.data.toList], n + 1, A5, c5, rfl, rfl, ⟨rfl, by rw [List.length_append, hg.out.2.1]; rfl, HR.out.1, by have := hg.out.2.2.2; have := HR.out.2.1; omega⟩, (by show Sl _ _ _ _ _; rw [strs_snoc]; exact H5.out.1), ⟨own_from hO.out.1 (Nat.le_trans hb.out.size (by simp)) H5.out.2.2, fun e => by omega⟩, (hb.out.alloc hb.out.size _).grown H5.out.2.1 (by have := hb.out.size; simp; omega) (fun i hi => hO.out.1 i hi)⟩
      · have hkI : (rest.size : Int) < 1 + (m : Int) := by rw [← hrs]; simp; omega
        have hst := texts_stop hF (by rw [hm]; exact hk)
        have hFF : textsN l = none := by unfold textsN; rw [hst]
        have HR := Lib.hid hFF
        clear hr hrs hF hst hFF hk hm
        go_wp2_with (fail)
        go_ret2
        exact .inl ⟨HR.out, rfl, hb.out⟩
end Go.Proofs.YthnngndnpigjbaaGreat

namespace Go.Proofs.YthnngndnpigjbaaGreat
open Go.RowKit Go.Lib

theorem formN_le' {t : Int} {f : Nat × Nat × Nat} (h : formN t = some f) : f.1 ≤ 3 ∧ f.2.1 ≤ 2 ∧ f.2.2 ≤ 5 := by
  unfold formN at h
  split at h
  · injection h with h; subst h; decide
  · split at h
    · injection h with h; subst h; decide
    · split at h
      · injection h with h; subst h; decide
      · split at h
        · injection h with h; subst h; decide
        · cases h

theorem chk_eq {t : Int} {l : Bs} {b : Bool} (h : okD t l = b) : chkD t l = if b = true then 0 else 2 := by unfold chkD; rw [h]
set_option maxRecDepth 100000 in
set_option maxHeartbeats 8000000 in
theorem rdCheck_any (t : Int) (s : ByteArray) (hs : s.size ≤ 140737488355328) (w : World) : Calls Tryz.prog 47 #[.int .u16 t, .string s] w fun e w' => e = .returned (.int .i64 (chkD t s.data.toList)) ∧ Below w.heap.size w w' := by
  have hll : s.data.toList.length = s.size := by simp
  by_cases hbig : 4096 < s.size
  · have hI : decide ((s.size : Int) ≤ 4096) = false := by simp; omega
    have HE := Lib.hid (chk_eq (t := t) (l := s.data.toList) (b := false) (by unfold okD; rw [decide_eq_false (by omega)]; rfl))
    clear hbig hll hs
    go_enter Tryz.func47, Tryz.ntmps47
    go_wp2_with (fail)
    go_ret
    exact ⟨by rw [HE.out]; rfl, Below.refl _ _⟩
  have hd0 : decide (s.data.toList.length ≤ 4096) = true := by simp; omega
  have hI : decide ((s.size : Int) ≤ 4096) = true := by simp; omega
  by_cases h1 : t = 1
  · subst h1
    by_cases h4 : s.size = 4
    · have hI2 : ((s.size : Int) == 4) = true := by simp; omega
      have HE := Lib.hid (chk_eq (t := 1) (l := s.data.toList) (b := true) (by unfold okD; rw [hd0, if_pos rfl, hll, h4]; rfl))
      clear hbig hll hs hd0 h4
      go_enter Tryz.func47, Tryz.ntmps47
      go_wp2_with (fail)
      go_ret
      exact ⟨by rw [HE.out]; rfl, Below.refl _ _⟩
    · have hI2 : ((s.size : Int) == 4) = false := by simp; omega
      have HE := Lib.hid (chk_eq (t := 1) (l := s.data.toList) (b := false) (by unfold okD; rw [hd0, if_pos rfl, hll, decide_eq_false h4]; rfl))
      clear hbig hll hs hd0 h4
      go_enter Tryz.func47, Tryz.ntmps47
      go_wp2_with (fail)
      go_ret
      exact ⟨by rw [HE.out]; rfl, Below.refl _ _⟩
  have q1 : (t == 1) = false := by simp [h1]
  by_cases h28 : t = 28
  · subst h28
    by_cases h4 : s.size = 16
    · have hI2 : ((s.size : Int) == 16) = true := by simp; omega
      have HE := Lib.hid (chk_eq (t := 28) (l := s.data.toList) (b := true) (by unfold okD; rw [hd0, if_neg (by decide), if_pos rfl, hll, h4]; rfl))
      clear hbig hll hs hd0 h4 q1
      go_enter Tryz.func47, Tryz.ntmps47
      go_wp2_with (fail)
      go_ret
      exact ⟨by rw [HE.out]; rfl, Below.refl _ _⟩
    · have hI2 : ((s.size : Int) == 16) = false := by simp; omega
      have HE := Lib.hid (chk_eq (t := 28) (l := s.data.toList) (b := false) (by unfold okD; rw [hd0, if_neg (by decide), if_pos rfl, hll, decide_eq_false h4]; rfl))
      clear hbig hll hs hd0 h4 q1
      go_enter Tryz.func47, Tryz.ntmps47
      go_wp2_with (fail)
      go_ret
      exact ⟨by rw [HE.out]; rfl, Below.refl _ _⟩
  have q2 : (t == 28) = false := by simp [h28]
  by_cases h16 : t = 16
  · subst h16
    have HT := Lib.hid (texts_any s (by omega) w)
    have hq : okD 16 s.data.toList = (textsN s.data.toList).isSome := by unfold okD; rw [hd0, if_neg (by decide), if_neg (by decide), if_pos rfl]; rfl
    have HQ := Lib.hid hq
    clear hbig hll hs hd0 q1 q2 hq
    go_enter Tryz.func47, Tryz.ntmps47
    go_wp2_with (fail)
    with_reducible refine HT.out.mono ?_
    rintro e w2 hpost
    clear HT
    rcases hpost with ⟨hq, rfl, hb⟩ | ⟨ts, A, c, hq, rfl, _, _, hb⟩
    · have HE := Lib.hid (And.intro (chk_eq (by rw [HQ.out, hq]; rfl : okD 16 s.data.toList = false)) hb)
      clear hq hb
      go_wp2_with (fail)
      go_ret
      exact ⟨by rw [HE.out.1]; rfl, HE.out.2⟩
    · have HE := Lib.hid (And.intro (chk_eq (by rw [HQ.out, hq]; rfl : okD 16 s.data.toList = true)) hb)
      clear hq hb
      go_wp2_with (fail)
      go_ret
      exact ⟨by rw [HE.out.1]; rfl, HE.out.2⟩
  have q3 : (t == 16) = false := by simp [h16]
  have HFO := Lib.hid (fun W => formOf_any t W)
  cases hf : formN t with
  | none =>
    have e1 : formT t = ((0, 0, 0), false) := by unfold formT; rw [hf]
    have ev : formV (formT t).1 = .agg #[.int .i64 0, .int .i64 0, .int .i64 0] := by rw [e1]; rfl
    have eb : (formT t).2 = false := by rw [e1]
    have HE := Lib.hid (And.intro (chk_eq (t := t) (l := s.data.toList) (b := true) (by unfold okD; rw [hd0, if_neg h1, if_neg h28, if_neg h16, hf]; rfl)) (And.intro ev eb))
    clear hbig hll hs hd0 h1 h28 h16 hf e1 ev eb
    go_enter Tryz.func47, Tryz.ntmps47
    go_wp2_with (fail)
    with_reducible refine (HFO.out _).mono ?_
    rintro e w2 ⟨rfl, hb⟩
    rw [HE.out.2.1, HE.out.2.2]
    have HB := Lib.hid hb
    clear hb
    go_wp2_with (fail)
    go_ret
    exact ⟨by rw [HE.out.1]; rfl, HB.out.alloc HB.out.size _⟩
  | some f =>
    have e1 : formT t = (f, true) := by unfold formT; rw [hf]
    have ev : formV (formT t).1 = .agg #[.int .i64 (f.1 : Int), .int .i64 (f.2.1 : Int), .int .i64 (f.2.2 : Int)] := by rw [e1]; rfl
    have eb : (formT t).2 = true := by rw [e1]
    have hq : okD t s.data.toList = (cutN f s.data.toList).isSome := by unfold okD; rw [hd0, if_neg h1, if_neg h28, if_neg h16, hf]; rfl
    have HC := fun W => rdCut_any f (formN_le' hf) s hs W
    unfold formV at HC
    have HC := Lib.hid HC
    have HE := Lib.hid (And.intro hq (And.intro ev eb))
    clear hbig hll hs hd0 h1 h28 h16 hf e1 ev eb hq
    go_enter Tryz.func47, Tryz.ntmps47
    go_wp2_with (fail)
    with_reducible refine (HFO.out _).mono ?_
    rintro e w2 ⟨rfl, hb⟩
    rw [HE.out.2.1, HE.out.2.2]
    have hbA := hb.alloc hb.size (.cells #[.int .i64 (f.1 : Int), .int .i64 (f.2.1 : Int), .int .i64 (f.2.2 : Int)] 95)
    have HB := Lib.hid hbA
    clear hb hbA
    go_wp2_with (fail)
    with_reducible refine (HC.out _).mono ?_
    rintro e w4 hpost
    clear HC HFO
    rcases hpost with ⟨hq, rfl, hb4⟩ | ⟨p, A, c, hq, rfl, _, _, hb4⟩
    · have HF := Lib.hid (And.intro (chk_eq (by rw [HE.out.1, hq]; rfl : okD t s.data.toList = false)) (HB.out.trans (hb4.mono HB.out.size)))
      clear hq hb4
      unfold noParts
      go_wp2_with (fail)
      go_ret
      exact ⟨by rw [HF.out.1]; rfl, HF.out.2⟩
    · have HF := Lib.hid (And.intro (chk_eq (by rw [HE.out.1, hq]; rfl : okD t s.data.toList = true)) (HB.out.trans (hb4.mono HB.out.size)))
      clear hq hb4
      unfold partsV bsV
      go_wp2_with (fail)
      go_ret
      exact ⟨by rw [HF.out.1]; rfl, HF.out.2⟩
end Go.Proofs.YthnngndnpigjbaaGreat
