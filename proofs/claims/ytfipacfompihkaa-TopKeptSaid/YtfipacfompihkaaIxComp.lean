/- The walk of slices.CompactFunc at numbers that stand for texts. Conditions: none. -/
import Derived.Test.YtfipacfompihkaaIxSort
import Derived.Test.YtfipacfompihkaaRes
namespace Go.Proofs.Ytfipacfompihkaa
open Go.RowKit Go.Lib

section
variable {α κ : Type} [DecidableEq κ] (key : α → κ)
/-- The first of each run of one key. -/
def ddX : Option κ → List α → List α
  | _, [] => []
  | pv, x :: l => if pv = some (key x) then ddX (some (key x)) l else x :: ddX (some (key x)) l
theorem ddX_snoc (x : α) : ∀ (l : List α) (pv : Option κ), ddX key pv (l ++ [x]) = ddX key pv l ++ (if (match l.getLast? with | some y => some (key y) | none => pv) = some (key x) then [] else [x])
  | [], pv => by
    show ddX key pv [x] = _
    unfold ddX
    split <;> simp [ddX, *]
  | y :: l, pv => by
    have ih := ddX_snoc x l (some (key y))
    have e : (match (y :: l).getLast? with | some z => some (key z) | none => pv) = (match l.getLast? with | some z => some (key z) | none => some (key y)) := by
      cases l with
      | nil => rfl
      | cons z l => rw [List.getLast?_cons_cons]; cases h : (z :: l).getLast? <;> simp_all
    show ddX key pv (y :: (l ++ [x])) = _
    rw [e]
    unfold ddX
    split
    · exact ih
    · rw [ih]; rfl
theorem ddX_step {P : List α} {i : Nat} {x y : α} (hx : P[i]? = some x) (hy : P[i + 1]? = some y) : ddX key none (P.take (i + 2)) = ddX key none (P.take (i + 1)) ++ (if key x = key y then [] else [y]) := by
  have e1 : P.take (i + 2) = P.take (i + 1) ++ [y] := by rw [List.take_add_one, hy]; rfl
  have e2 : (P.take (i + 1)).getLast? = some x := by rw [List.take_add_one, hx]; simp
  rw [e1, ddX_snoc, e2]
  simp
theorem ddX_one {P : List α} {x : α} (hx : P[0]? = some x) : ddX key none (P.take 1) = P.take 1 := by
  have : P.take 1 = [x] := by rw [List.take_add_one, hx]; rfl
  rw [this]
  simp [ddX]
end
set_option maxRecDepth 100000 in
theorem eqI_any {w : World} {g Bq Bf : Nat} {Af : Option Addr} {cf : Nat} {fs : List ByteArray} {P : List Nat} (h : IxOk w g Bf Af cf fs P) (hq : Blk w Bq 91 #[.func (.func 88) #[] #[.pointer (some ⟨Bf, 0, none⟩)]]) (i j : Nat) (hi : i < fs.length) (hj : j < fs.length) :
    Calls Try.prog 92 #[.int .i64 (i : Int), .int .i64 (j : Int), .pointer (some ⟨Bq, 0, none⟩)] w fun e w' => e = .returned (.bool (decide (keyF fs i = keyF fs j))) ∧ Below w.heap.size w w' := by
  have HR := Lib.hid (rise_any h.key h.ln i j hi hj)
  have b0 : w.cell? ⟨Bq, 0, none⟩ = some (.func (.func 88) #[] #[.pointer (some ⟨Bf, 0, none⟩)]) := hq.cell 0
  have hz := (cmpS_sign (keyF fs i) (keyF fs j)).2.1
  obtain ⟨z, hzz⟩ : ∃ z, cmpS (keyF fs i) (keyF fs j) = z := ⟨_, rfl⟩
  rw [hzz] at HR hz
  have hd : decide (keyF fs i = keyF fs j) = (z == 0) := by
    by_cases e : keyF fs i = keyF fs j
    · rw [decide_eq_true e, hz.2 e]; rfl
    · have : z ≠ 0 := fun q => e (hz.1 q)
      rw [decide_eq_false e]; exact (beq_eq_false_iff_ne.2 this).symm
  rw [hd]
  clear h hq hi hj hz hzz hd
  go_enter Try.func92, Try.ntmps92
  go_wp2_with (fail)
  with_reducible refine HR.out.mono ?_
  rintro e w2 ⟨rfl, hb⟩
  have HB := Lib.hid hb
  clear hb
  go_wp2_with (fail)
  go_ret
  exact ⟨rfl, HB.out⟩
def CompQ (fs : List ByteArray) (g c : Nat) (P : List Nat) (w : World) (e : Ending) (w' : World) : Prop :=
  e = .returned (.slice (some ⟨g, 0, none⟩) (ddX (keyF fs) none P).length c) ∧ Sl w' 1 (.slice (some ⟨g, 0, none⟩) (ddX (keyF fs) none P).length c) (ddX (keyF fs) none P).length (ixC (ddX (keyF fs) none P)) ∧ KeepK (fun i => i < w.heap.size ∧ i ≠ g) w w'
set_option maxRecDepth 100000 in
set_option maxHeartbeats 8000000 in
theorem compactI_any (fs : List ByteArray) (Af : Option Addr) (cf Bf Bq g c : Nat) (P : List Nat) (w : World) (hS : Sl w 1 (.slice (some ⟨g, 0, none⟩) P.length c) P.length (ixC P)) (hP : IxOk w g Bf Af cf fs P) (hq : Blk w Bq 91 #[.func (.func 88) #[] #[.pointer (some ⟨Bf, 0, none⟩)]]) (hqg : Bq ≠ g) (hn : P.length ≤ 1000000) (h1 : 1 ≤ P.length) :
    Calls Try.prog 91 #[.slice (some ⟨g, 0, none⟩) P.length c, .func (.func 92) #[] #[.pointer (some ⟨Bq, 0, none⟩)]] w (CompQ fs g c P w) := by
  obtain ⟨x0, hx0⟩ : ∃ x, P[0]? = some x := ⟨_, List.getElem?_eq_getElem (by omega)⟩
  have HD1 := Lib.hid (ddX_one (keyF fs) hx0)
  obtain ⟨A', c', hv, hnc, hcm⟩ := hS.shape
  injection hv with hA hN' hc'
  subst hA hc'
  unfold maxLen at hcm
  obtain ⟨N, hN⟩ : ∃ N, P.length = N := ⟨_, rfl⟩
  have HN := Lib.hid hN
  rw [hN] at hS hn h1 hnc ⊢
  have hNI : (N : Int) ≤ 1000000 := by omega
  have hcI : (c : Int) ≤ 9223372036854775807 := by omega
  have hNcI : (N : Int) ≤ (c : Int) := by omega
  have HE := Lib.hid (fun (W : World) (hW : KeepK (fun i => i < w.heap.size ∧ i ≠ g) w W) (X : World) (hX : Below W.heap.size W X) (i j : Nat) (hi : i < fs.length) (hj : j < fs.length) => eqI_any ((hP.keep hW).keep (KeepK.of_below hX fun i hi => hi.1)) ((hq.keepK hW ⟨hq.lt, hqg⟩).below hX (Nat.lt_of_lt_of_le hq.lt hW.size)) i j hi hj)
  have HS := Lib.hid (And.intro hS (And.intro hP (And.intro hn (And.intro h1 hnc))))
  clear hS hP hq hqg hn hN hx0 hN' hcm
  go_enter Try.func91, Try.ntmps91
  by_cases h2 : N < 2
  · have h2I : (N : Int) < 2 := by omega
    have HR := Lib.hid (show ddX (keyF fs) none P = P from by
      have := HD1.out
      rw [List.take_of_length_le (by have := HN.out; omega)] at this
      exact this)
    clear h2 h1 hnc
    go_wp2_with (fail)
    go_ret
    unfold CompQ
    rw [HR.out, HN.out]
    exact ⟨rfl, HS.out.1, KeepK.refl _ _⟩
  have h2I : ¬ (N : Int) < 2 := by omega
  clear h2 h1 hnc
  go_wp2_with (fail)
  go_loopg [5, 6, 7] (N - 1) (fun gg v5 v6 v7 wr => ∃ k : Nat, v5 = .int .i64 (k : Int) ∧ Aside (gg + k = N ∧ 1 ≤ k) ∧ Aside (ddX (keyF fs) none (P.take k) = P.take k) ∧ Aside (Below w.heap.size w wr))
  case atStart => exact ⟨1, rfl, ⟨by have := HS.out.2.2.2.1; omega, Nat.le_refl _⟩, HD1.out, Below.refl _ _⟩
  case round =>
    obtain ⟨k, rfl, hg, hd, hB⟩ := hrel
    have hkI : (k : Int) ≤ 1000000 := by have := hg.out; have := HS.out.2.2.1; omega
    by_cases hlt : k < N
    · have hltI : (k : Int) < (N : Int) := by omega
      obtain ⟨p, hp⟩ : ∃ p, k = p + 1 := ⟨k - 1, by have := hg.out.2; omega⟩
      obtain ⟨y, hy⟩ : ∃ y, P[p + 1]? = some y := ⟨_, List.getElem?_eq_getElem (by have := HN.out; omega)⟩
      obtain ⟨x, hx⟩ : ∃ x, P[p]? = some x := ⟨_, List.getElem?_eq_getElem (by have := HN.out; omega)⟩
      have hSr := HS.out.1.below hB.out HS.out.1.lt
      have hgl : g < wr.heap.size := hSr.lt g rfl
      have cy0 : wr.cell? ⟨g, k, none⟩ = some (.int .i64 (y : Int)) := by rw [hp]; exact hSr.cell rfl (ixC_at hy)
      have cx0 : wr.cell? ⟨g, p, none⟩ = some (.int .i64 (x : Int)) := hSr.cell rfl (ixC_at hx)
      have cy : ∀ q : BelowOf wr, q.X.cell? ⟨g, k, none⟩ = some (.int .i64 (y : Int)) := fun q => q.cell (a := ⟨g, k, none⟩) hgl cy0
      have cx : ∀ q : BelowOf wr, q.X.cell? ⟨g, p, none⟩ = some (.int .i64 (x : Int)) := fun q => q.cell (a := ⟨g, p, none⟩) hgl cx0
      have HEQ := Lib.hid (fun X (hX : Below wr.heap.size wr X) => HE.out wr (KeepK.of_below hB.out fun i hi => hi.1) X hX y x (HS.out.2.1.lt y (List.mem_of_getElem? hy)) (HS.out.2.1.lt x (List.mem_of_getElem? hx)))
      have hkp : (k : Int) - 1 = (p : Int) := by omega
      have hwr : IntKind.i64.wrap ((k : Int) - 1) = (p : Int) := by rw [IntKind.wrap_i64]; omega
      have hpN : (p : Int) < (N : Int) := by omega
      have HX := Lib.hid (And.intro hx (And.intro hy (And.intro hp hlt)))
      clear hx hy hp hlt cy0 cx0 hSr hkp
      by_cases hk : keyF fs y = keyF fs x
      · rw [decide_eq_true hk] at HEQ
        have HK := Lib.hid hk
        clear hk
        go_wp2_with (fail)
        refine wp_region_low (by kernel_rfl) (by kernel_rfl) ?_
        repeat (refine low_step (fun K hK => ?_); go_simp; first | (refine hK _ ?_; clear hK K) | (apply Exists.intro; refine ⟨fun q => ?_, hK _ ?_⟩; (first | (go_at_call 92; exact calls_low (HEQ.out _ q.h))); clear hK K))
        refine low_nil ?_
        rintro ⟨W5, hb5⟩
        dsimp only
        have HB5 := Lib.hid (hB.out.trans (hb5.mono hB.out.size))
        clear hb5 cy cx hwr HEQ
        have hsz : ∀ W : World, (sizeOf (Try.prog.elem 158)).run Try.prog W = .ok 1 W := fun W => by rfl
        have hadd : ∀ k : Nat, (⟨g, 0, none⟩ : Addr).add k = ⟨g, k, none⟩ := fun k => by rw [Go.WideShapes.add_plain, Nat.zero_add]
        have hkc : ¬ c = k := by have := HX.out.2.2.2; have := HS.out.2.2.2.2; omega
        have hsl : ∀ W : World, (Instr.slice 158 (.slice (some ⟨g, 0, none⟩) N c) (some (.int .i64 (k : Int))) none none).run Try.prog W = .ok (.slice (some ⟨g, k, none⟩) (N - k) (c - k)) W := fun W => by
          rw [run_slice_l (P := Try.prog) W 158 (some ⟨g, 0, none⟩) N c Try.underlying158 .i64 (k : Int) (by omega) (by omega), hsz]
          have e : (k : Int).toNat = k := by omega
          rw [e]
          simp [sliced, Result.andThen, hadd, hkc]
        have HSL := Lib.hid (And.intro hsz hadd)
        have hnkI : ((N - k : Nat) : Int) = (N : Int) - (k : Int) := by have := HX.out.2.2.2; omega
        obtain ⟨M, hM⟩ : ∃ M, N - k = M := ⟨_, rfl⟩
        have HM := Lib.hid hM
        rw [hM] at hsl hnkI
        have hMI : (M : Int) ≤ 1000000 := by omega
        clear hsz hadd hkc hM hnkI
        go_wp2_with (fail)
        clear hsl
        have HST := Lib.hid (show ddX (keyF fs) none (P.take (k + 1)) = P.take k from by
          have h0 := hd.out
          have hp := HX.out.2.2.1
          rw [hp] at h0 ⊢
          rw [ddX_step (keyF fs) HX.out.1 HX.out.2.1, h0, if_pos HK.out.symm, List.append_nil])
        go_loopg [5, 7] M (fun gg v5 v7 ws => ∃ (kd k2 : Nat) (R : List Nat), v5 = .int .i64 (kd : Int) ∧ v7 = .int .i64 (k2 : Int) ∧ Aside (gg + k2 = M + 1 ∧ 1 ≤ k2 ∧ k2 ≤ M ∧ kd < k + k2) ∧ Aside (R.length = N ∧ R.take kd = ddX (keyF fs) none (P.take (k + k2)) ∧ R.drop (k + k2 - 1) = P.drop (k + k2 - 1) ∧ kd ≤ N) ∧ Aside (Sl ws 1 (.slice (some ⟨g, 0, none⟩) N c) N (ixC R)) ∧ Aside (KeepK (fun i => i < w.heap.size ∧ i ≠ g) w ws))
        case atStart =>
          have := HM.out; have := HX.out.2.2.2; have := HN.out
          refine ⟨k, 1, P, rfl, rfl, ⟨by omega, Nat.le_refl _, by omega, by omega⟩, ⟨HN.out, HST.out.symm, rfl, by omega⟩, HS.out.1.below HB5.out HS.out.1.lt, KeepK.of_below HB5.out fun i hi => hi.1⟩
        case round =>
          obtain ⟨kd, k2, R, rfl, rfl, hg2, hR, hRS, hRK⟩ := hrel
          have hk2I : (k2 : Int) ≤ 1000000 := by have := hg2.out; omega
          have hkdI : (kd : Int) ≤ 1000000 := by have := hR.out; omega
          by_cases hlt2 : k2 < M
          · have hlt2I : (k2 : Int) < (M : Int) := by omega
            obtain ⟨m, hm⟩ : ∃ m, k2 = m + 1 := ⟨k2 - 1, by have := hg2.out.2.1; omega⟩
            obtain ⟨y2, hy2⟩ : ∃ y, P[k + m + 1]? = some y := ⟨_, List.getElem?_eq_getElem (by have := HN.out; have := HM.out; omega)⟩
            obtain ⟨x2, hx2⟩ : ∃ x, P[k + m]? = some x := ⟨_, List.getElem?_eq_getElem (by have := HN.out; have := HM.out; omega)⟩
            have hRat : ∀ i z, k + m ≤ i → P[i]? = some z → R[i]? = some z := fun i z hi hz => by
              have h := hR.out.2.2.1
              rw [show k + k2 - 1 = k + m by omega] at h
              have e1 : (R.drop (k + m))[i - (k + m)]? = R[i]? := by rw [List.getElem?_drop]; congr 1; omega
              have e2 : (P.drop (k + m))[i - (k + m)]? = P[i]? := by rw [List.getElem?_drop]; congr 1; omega
              rw [← e1, h, e2, hz]
            have hgl2 : g < wr.heap.size := hRS.out.lt g rfl
            have cy0 : wr.cell? ⟨g, k + k2, none⟩ = some (.int .i64 (y2 : Int)) := by rw [hm, ← Nat.add_assoc]; exact hRS.out.cell rfl (ixC_at (hRat _ _ (by omega) hy2))
            have cx0 : wr.cell? ⟨g, k + m, none⟩ = some (.int .i64 (x2 : Int)) := hRS.out.cell rfl (ixC_at (hRat _ _ (by omega) hx2))
            have cy : ∀ q : BelowOf wr, q.X.cell? ⟨g, k + k2, none⟩ = some (.int .i64 (y2 : Int)) := fun q => q.cell (a := ⟨g, k + k2, none⟩) hgl2 cy0
            have cx : ∀ q : BelowOf wr, q.X.cell? ⟨g, k + m, none⟩ = some (.int .i64 (x2 : Int)) := fun q => q.cell (a := ⟨g, k + m, none⟩) hgl2 cx0
            have HEQ := Lib.hid (fun X (hX : Below wr.heap.size wr X) => HE.out wr hRK.out X hX y2 x2 (HS.out.2.1.lt y2 (List.mem_of_getElem? hy2)) (HS.out.2.1.lt x2 (List.mem_of_getElem? hx2)))
            have hwr : IntKind.i64.wrap ((k2 : Int) - 1) = (m : Int) := by rw [IntKind.wrap_i64]; omega
            have hmM : (m : Int) < (M : Int) := by omega
            have HX2 := Lib.hid (And.intro hx2 (And.intro hy2 (And.intro hm (And.intro hlt2 hRat))))
            have HST2 := Lib.hid (ddX_step (keyF fs) hx2 hy2)
            clear hx2 hy2 hm hlt2 cy0 cx0 hRat
            by_cases hk2 : keyF fs y2 = keyF fs x2
            · rw [decide_eq_true hk2] at HEQ
              have HK2 := Lib.hid hk2
              clear hk2
              go_wp2_with (fail)
              refine wp_region_low (by kernel_rfl) (by kernel_rfl) ?_
              repeat (refine low_step (fun K hK => ?_); go_simp; first | (refine hK _ ?_; clear hK K) | (apply Exists.intro; refine ⟨fun q => ?_, hK _ ?_⟩; (first | (go_at_call 92; exact calls_low (HEQ.out _ q.h))); clear hK K))
              refine low_nil ?_
              rintro ⟨W5, hb5⟩
              dsimp only
              have HB6 := Lib.hid hb5
              clear hb5 cy cx hwr HEQ
              go_wp2_with (fail)
              go_roundg (M - k2)
              case measure => have := hg2.out; have := HX2.out.2.2.2.1; omega
              case rel =>
                have hm := HX2.out.2.2.1
                refine ⟨kd, k2 + 1, R, rfl, by go_num, ⟨by have := HX2.out.2.2.2.1; omega, by omega, by have := HX2.out.2.2.2.1; omega, by have := hg2.out; omega⟩, ⟨hR.out.1, ?_, ?_, hR.out.2.2.2⟩, hRS.out.below HB6.out hRS.out.lt, hRK.out.trans (KeepK.of_below HB6.out fun i hi => Nat.lt_of_lt_of_le hi.1 hRK.out.size)⟩
                · rw [show k + (k2 + 1) = k + m + 2 by omega, HST2.out, if_pos HK2.out.symm, List.append_nil, hR.out.2.1, show k + k2 = k + m + 1 by omega]
                · have h := hR.out.2.2.1
                  have := congrArg (List.drop 1) h
                  rw [List.drop_drop, List.drop_drop] at this
                  rw [show k + (k2 + 1) - 1 = k + k2 - 1 + 1 by omega]
                  exact this
            · rw [decide_eq_false hk2] at HEQ
              have HK2 := Lib.hid hk2
              clear hk2
              go_wp2_with (fail)
              refine wp_region_low (by kernel_rfl) (by kernel_rfl) ?_
              repeat (refine low_step (fun K hK => ?_); go_simp; first | (refine hK _ ?_; clear hK K) | (apply Exists.intro; refine ⟨fun q => ?_, hK _ ?_⟩; (first | (go_at_call 92; exact calls_low (HEQ.out _ q.h))); clear hK K))
              refine low_nil ?_
              rintro ⟨W5, hb5⟩
              dsimp only
              have hS6 := hRS.out.below hb5 hRS.out.lt
              have cy6 : W5.cell? ⟨g, k + k2, none⟩ = some (.int .i64 (y2 : Int)) := cy ⟨W5, hb5⟩
              have hkdN : kd < N := by have := hg2.out; have := HX2.out.2.2.2.1; have := HM.out; omega
              obtain ⟨r0, hr0⟩ : ∃ r, R[kd]? = some r := ⟨_, List.getElem?_eq_getElem (by have := hR.out.1; omega)⟩
              have ckd : W5.cell? ⟨g, kd, none⟩ = some (.int .i64 (r0 : Int)) := hS6.cell rfl (ixC_at hr0)
              have fkd := hS6.free (g := g) rfl (j := kd) (by omega)
              have hkdNI : (kd : Int) < (N : Int) := by omega
              have HB6 := Lib.hid (And.intro hb5 (And.intro hS6 hkdN))
              clear hb5 cy cx hwr HEQ hS6 hkdN hr0
              go_wp2_with (fail)
              go_roundg (M - k2)
              case measure => have := hg2.out; have := HX2.out.2.2.2.1; omega
              case rel =>
                have hm := HX2.out.2.2.1
                refine ⟨kd + 1, k2 + 1, R.set kd y2, by go_num, by go_num, ⟨by have := HX2.out.2.2.2.1; omega, by omega, by have := HX2.out.2.2.2.1; omega, by have := hg2.out; omega⟩, ⟨by rw [List.length_set]; exact hR.out.1, ?_, ?_, by have := HB6.out.2.2; omega⟩, ?_, (hRK.out.trans (KeepK.of_below HB6.out.1 fun i hi => Nat.lt_of_lt_of_le hi.1 hRK.out.size)).setCell (p := ⟨g, kd, none⟩) (fun i hi => hi.2) _⟩
                · rw [show k + (k2 + 1) = k + m + 2 by omega, HST2.out, if_neg (fun e => HK2.out e.symm), ← show k + k2 = k + m + 1 by omega, ← hR.out.2.1]
                  have hl : kd < (R.set kd y2).length := by rw [List.length_set, hR.out.1]; exact HB6.out.2.2
                  rw [List.take_add_one, List.getElem?_set_self (by have := hR.out.1; have := HB6.out.2.2; omega), List.take_set_of_le (by omega)]
                  rfl
                · have h := hR.out.2.2.1
                  have := congrArg (List.drop 1) h
                  rw [List.drop_drop, List.drop_drop] at this
                  rw [show k + (k2 + 1) - 1 = k + k2 - 1 + 1 by omega, List.drop_set_of_lt (by have := hg2.out; omega)]
                  exact this
                · show Sl _ _ _ _ _
                  rw [ixC_set]
                  exact HB6.out.2.1.set_ (g := g) rfl kd _ (by have := HB6.out.2.2; omega)
          · have hlt2I : ¬ (k2 : Int) < (M : Int) := by omega
            have hkdN : kd < N := by have := hg2.out; have := HM.out; have := HX.out.2.2.2; omega
            have hfin : R.take kd = ddX (keyF fs) none P := by
              rw [hR.out.2.1, List.take_of_length_le (by have := HN.out; have := hg2.out; have := HM.out; have := HX.out.2.2.2; omega)]
            obtain ⟨hsz, hadd⟩ := HSL.out
            have hkc : ¬ c = kd := by have := HS.out.2.2.2.2; omega
            have hsl1 : ∀ W : World, (Instr.slice 158 (.slice (some ⟨g, 0, none⟩) N c) (some (.int .i64 (kd : Int))) none none).run Try.prog W = .ok (.slice (some ⟨g, kd, none⟩) (N - kd) (c - kd)) W := fun W => by
              rw [run_slice_l (P := Try.prog) W 158 (some ⟨g, 0, none⟩) N c Try.underlying158 .i64 (kd : Int) (by omega) (by omega), hsz]
              have e : (kd : Int).toNat = kd := by omega
              rw [e]
              simp [sliced, Result.andThen, hadd, hkc]
            have hsl2 : ∀ W : World, (Instr.slice 158 (.slice (some ⟨g, 0, none⟩) N c) none (some (.int .i64 (kd : Int))) none).run Try.prog W = .ok (.slice (some ⟨g, 0, none⟩) kd c) W := fun W => by
              rw [run_slice_h (P := Try.prog) W 158 (some ⟨g, 0, none⟩) N c Try.underlying158 .i64 (kd : Int) (by omega) (by omega), hsz]
              simp [sliced, Result.andThen, hadd]
            have hvl : ∀ v ∈ (Builtin.zeroCells (Value.int .i64 0).cells (N - kd)).toList, v.oneCell' = true ∧ True := fun v hv => by
              have h1 : v = .int .i64 0 := by
                simp only [Builtin.zeroCells, Value.cells] at hv
                simp at hv
                obtain ⟨q, _, h2⟩ := hv
                rw [← h2, Nat.mod_one]
                rfl
              rw [h1]
              exact ⟨rfl, trivial⟩
            have hzl : (Builtin.zeroCells (Value.int .i64 0).cells (N - kd)).toList.length = N - kd := by
              simp [Builtin.zeroCells, Value.cells]
            obtain ⟨W9, hW9⟩ : ∃ W9, wr.setCells g kd (Builtin.zeroCells (Value.int .i64 0).cells (N - kd)).toList = W9 := ⟨_, rfl⟩
            have hclr : ∀ ty : TypeId, (Builtin.clear_ #[158] ty #[.slice (some ⟨g, kd, none⟩) (N - kd) (c - kd)]).run Try.prog wr = .ok (.tuple #[]) W9 := fun ty => by
              rw [← hW9]
              refine run_clear_any (P := Try.prog) wr 158 3 ty (.int .i64 0) Try.underlying158 (fun w => by rfl) g kd (N - kd) (c - kd) (by omega) (fun v hv => (hvl v hv).1) (fun j hj => ?_) (fun j hj => ?_)
              · rw [hzl] at hj
                obtain ⟨r, hr⟩ : ∃ r, R[kd + j]? = some r := ⟨_, List.getElem?_eq_getElem (by have := hR.out.1; omega)⟩
                rw [hRS.out.cell (g := g) rfl (ixC_at hr)]
                rfl
              · rw [hzl] at hj
                exact hRS.out.free (g := g) rfl (by omega)
            have hS9 : Sl W9 1 (.slice (some ⟨g, 0, none⟩) kd c) kd (ixC (ddX (keyF fs) none P)) := by
              have h := hRS.out.cut kd (by omega) (Builtin.zeroCells (Value.int .i64 0).cells (N - kd)).toList (by rw [hzl]; omega)
              rw [Nat.mul_one, hW9] at h
              rw [← hfin]
              have e : ixC (R.take kd) = (ixC R).take kd := by unfold ixC; rw [List.map_take]
              rw [e]
              exact h
            have hK9 : KeepK (fun i => i < w.heap.size ∧ i ≠ g) w W9 := by
              rw [← hW9]
              exact hRK.out.trans ((KeepK.refl _ wr).setCells g kd _ (fun i hi => ⟨Nat.lt_of_lt_of_le hi.1 hRK.out.size, hi.2⟩))
            have hlen : (ddX (keyF fs) none P).length = kd := by rw [← hfin, List.length_take, hR.out.1]; omega
            have H9 := Lib.hid (And.intro hS9 (And.intro hK9 hlen))
            have hkdN2 : (kd : Int) ≤ (N : Int) := by omega
            clear hS9 hK9 hlen hW9 hzl hvl hsz hadd hkc hfin hlt2 hkdN
            go_wp2_with (fail)
            go_ret
            unfold CompQ
            rw [H9.out.2.2]
            exact ⟨rfl, H9.out.1, H9.out.2.1⟩
      · rw [decide_eq_false hk] at HEQ
        have HK := Lib.hid hk
        clear hk
        go_wp2_with (fail)
        refine wp_region_low (by kernel_rfl) (by kernel_rfl) ?_
        repeat (refine low_step (fun K hK => ?_); go_simp; first | (refine hK _ ?_; clear hK K) | (apply Exists.intro; refine ⟨fun q => ?_, hK _ ?_⟩; (first | (go_at_call 92; exact calls_low (HEQ.out _ q.h))); clear hK K))
        refine low_nil ?_
        rintro ⟨W5, hb5⟩
        dsimp only
        have HB5 := Lib.hid (hB.out.trans (hb5.mono hB.out.size))
        clear hb5 cy cx hwr HEQ
        go_wp2_with (fail)
        go_roundg (N - (k + 1))
        case measure => have := hg.out; have := HX.out.2.2.2; omega
        case rel =>
          refine ⟨k + 1, by go_num, ⟨by have := HX.out.2.2.2; omega, by omega⟩, ?_, HB5.out⟩
          show _ = _
          have h0 := hd.out
          have hp := HX.out.2.2.1
          rw [hp] at h0 ⊢
          rw [ddX_step (keyF fs) HX.out.1 HX.out.2.1, h0, if_neg (fun e => HK.out e.symm), List.take_add_one (i := p + 1), HX.out.2.1]
          rfl
    · have hltI : ¬ (k : Int) < (N : Int) := by omega
      have HR := Lib.hid (show ddX (keyF fs) none P = P from by
        have := hd.out
        rw [List.take_of_length_le (by have := HN.out; omega)] at this
        exact this)
      clear hlt
      go_wp2_with (fail)
      go_ret
      unfold CompQ
      rw [HR.out, HN.out]
      exact ⟨rfl, HS.out.1.below hB.out HS.out.1.lt, KeepK.of_below hB.out fun i hi => hi.1⟩
end Go.Proofs.Ytfipacfompihkaa
