/- The walk of package rdata's Fold; strings.Join of one text. Conditions: none. -/
import Derived.Test.YthnngndnpigjbaaGreatRdNames
import Derived.Test.YthnngndnpigjbaaGreatSame
import Derived.Test.YthnngndnpigjbaaGreatRet
import Derived.Test.YthnngndnpigjbaaGreatShelfD
import Derived.Test.YthnngndnpigjbaaGreatRdCheck
namespace Go.Proofs.YthnngndnpigjbaaGreat
open Go.RowKit Go.Lib

theorem look_cut {t : Int} {l : Bs} {f : Nat × Nat × Nat} {p : Bs × List Bs × Bs} (hf : formN t = some f) (h : lookN t l = some p) : cutN f l = some p := by
  unfold lookN at h
  rw [hf] at h
  dsimp only at h
  split at h
  · exact h
  · cases h
def foldD (t : Int) (l : Bs) : Bs := match lookN t l with
  | none => l
  | some p => p.1 ++ foldB p.2.1.flatten ++ p.2.2
set_option maxRecDepth 100000 in
theorem join_one (g o c : Nat) (N : ByteArray) (w : World) (h : w.cell? ⟨g, o, none⟩ = some (.string N)) :
    Calls Tryz.prog 49 #[.slice (some ⟨g, o, none⟩) 1 c, .string ⟨#[]⟩] w fun e w' => e = .returned (.string N) ∧ w = w' := by
  go_enter Tryz.func49, Tryz.ntmps49
  go_wp2_with (fail)
  go_ret
  exact ⟨rfl, rfl⟩
/-- What strings.Join makes of right names. -/
def Joins (V : World) (A : Option Addr) (m c : Nat) (J : ByteArray) : Prop := ∀ W, Below V.heap.size V W → Calls Tryz.prog 49 #[.slice A m c, .string ⟨#[]⟩] W fun e w' => e = .returned (.string J) ∧ Below W.heap.size W w'

theorem keepF3 {V W : World} {a : Nat} {x0 x1 x2 : Option Value} (H : W.cell? ⟨a, 0, none⟩ = x0 ∧ W.cell? ⟨a, 1, none⟩ = x1 ∧ W.cell? ⟨a, 2, none⟩ = x2 ∧ Below V.heap.size V W) :
    W.drew.cell? ⟨a, 0, none⟩ = x0 ∧ W.drew.cell? ⟨a, 1, none⟩ = x1 ∧ W.drew.cell? ⟨a, 2, none⟩ = x2 ∧ Below V.heap.size V W.drew := ⟨H.1, H.2.1, H.2.2.1, H.2.2.2.drew⟩
theorem keepF3C {V W w' : World} {a : Nat} {x0 x1 x2 : Option Value} (ha : a < V.heap.size) (H : W.cell? ⟨a, 0, none⟩ = x0 ∧ W.cell? ⟨a, 1, none⟩ = x1 ∧ W.cell? ⟨a, 2, none⟩ = x2 ∧ Below V.heap.size V W) (hw : Below W.heap.size W w') :
    w'.cell? ⟨a, 0, none⟩ = x0 ∧ w'.cell? ⟨a, 1, none⟩ = x1 ∧ w'.cell? ⟨a, 2, none⟩ = x2 ∧ Below V.heap.size V w' := by
  have h := H.2.2.2.size
  exact ⟨(hw.cell (p := ⟨a, 0, none⟩) (by show a < _; omega)).trans H.1, (hw.cell (p := ⟨a, 1, none⟩) (by show a < _; omega)).trans H.2.1, (hw.cell (p := ⟨a, 2, none⟩) (by show a < _; omega)).trans H.2.2.1, H.2.2.2.trans (hw.mono H.2.2.2.size)⟩

set_option maxRecDepth 100000 in
set_option maxHeartbeats 4000000 in
theorem rdFold_any (t : Int) (s : ByteArray) (hs : s.size ≤ 1000000) (w : World)
    (HJ : ∀ (V : World) (p : Bs × List Bs × Bs) (A : Option Addr) (c : Nat), lookN t s.data.toList = some p → Sl V 1 (.slice A p.2.1.length c) p.2.1.length (strs p.2.1) → Joins V A p.2.1.length c ⟨p.2.1.flatten.toArray⟩) :
    Calls Tryz.prog 26 #[.int .u16 t, .string s] w fun e w' => e = .returned (.string ⟨(foldD t s.data.toList).toArray⟩) ∧ Below w.heap.size w w' := by
  have HLK := Lib.hid (look_any t s (by omega) w)
  obtain ⟨d, hd⟩ : ∃ d, s.data.toList = d := ⟨_, rfl⟩
  have hds : d.length = s.size := by rw [← hd]; simp
  have HJJ := Lib.hid HJ
  rw [hd] at HLK HJJ ⊢
  have HD := Lib.hid (And.intro hd (And.intro hds hs))
  clear HJ hd hds hs
  go_enter Tryz.func26, Tryz.ntmps26
  go_wp2_with (fail)
  with_reducible refine HLK.out.mono ?_
  rintro e w2 hpost
  clear HLK
  rcases hpost with ⟨hq, f, rfl, hb⟩ | ⟨f, p, A, c, hf, hq, rfl, hS, hO, hb⟩
  · have HH := Lib.hid (And.intro hq hb)
    clear hq hb
    unfold formV noParts
    go_wp2_with (fail)
    go_ret
    refine ⟨?_, (HH.out.2.alloc HH.out.2.size _).alloc (by have := HH.out.2.size; simp; omega) _⟩
    unfold foldD
    rw [HH.out.1]
    dsimp only
    rw [← HD.out.1]
    rfl
  · obtain ⟨pa, ns, pb⟩ := p
    dsimp only at hS hO
    have hcl := cutN_len (look_cut hf hq)
    have hdl : s.size = pa.length + (ns.flatten.length + pb.length) := by
      rw [← HD.out.2.1, hcl.1]; simp only [List.length_append]
    unfold formV partsV bsV
    dsimp only
    obtain ⟨PA, hPA⟩ : ∃ PA : ByteArray, (⟨pa.toArray⟩ : ByteArray) = PA := ⟨_, rfl⟩
    obtain ⟨PB, hPB⟩ : ∃ PB : ByteArray, (⟨pb.toArray⟩ : ByteArray) = PB := ⟨_, rfl⟩
    rw [hPA, hPB]
    obtain ⟨V, hV⟩ : ∃ V, (w2.alloc (.cells #[.int .i64 (f.1 : Int), .int .i64 (f.2.1 : Int), .int .i64 (f.2.2 : Int)] 95)).alloc (.cells #[.string PA, .slice A ns.length c, .string PB] 97) = V := ⟨_, rfl⟩
    have hbV : Below w.heap.size w V := by rw [← hV]; exact (hb.alloc hb.size _).alloc (by have := hb.size; simp; omega) _
    have gP : Blk V (w2.heap.size + 1) 97 #[.string PA, .slice A ns.length c, .string PB] := by rw [← hV]; exact heap_alloc2_new w2 _ _
    have hSV : Sl V 1 (.slice A ns.length c) ns.length (strs ns) := by rw [← hV]; exact (hS.alloc _).alloc _
    have c0 : V.cell? ⟨w2.heap.size + 1, 0, none⟩ = some (.string PA) := gP.cell 0
    have c1 : V.cell? ⟨w2.heap.size + 1, 1, none⟩ = some (.slice A ns.length c) := gP.cell 1
    have c2 : V.cell? ⟨w2.heap.size + 1, 2, none⟩ = some (.string PB) := gP.cell 2
    have hlt := gP.lt
    have HJ1 := HJJ.out V (pa, ns, pb) A c hq hSV
    dsimp only at HJ1
    obtain ⟨J, hJ⟩ : ∃ J : ByteArray, (⟨ns.flatten.toArray⟩ : ByteArray) = J := ⟨_, rfl⟩
    rw [hJ] at HJ1
    have hJd : J.data.toList = ns.flatten := by subst hJ; rfl
    have hJs : J.size = ns.flatten.length := by rw [← hJd]; simp
    have HFO := Lib.hid (fun W => Fold_any J (by have := HD.out.2.2; omega) W)
    obtain ⟨Q, hQ⟩ : ∃ Q : ByteArray, (⟨(foldB J.data.toList).toArray⟩ : ByteArray) = Q := ⟨_, rfl⟩
    rw [hQ] at HFO
    have hQd : Q.data.toList = foldB ns.flatten := by subst hQ; rw [hJd]
    have hQs : Q.size = ns.flatten.length := by have : Q.data.toList.length = Q.size := by simp
                                                rw [← this, hQd, foldB_length]
    have hPAs : PA.size = pa.length := by subst hPA; simp [ByteArray.size]
    have hPBs : PB.size = pb.length := by subst hPB; simp [ByteArray.size]
    have hfin : (PA ++ Q ++ PB) = (⟨(foldD t d).toArray⟩ : ByteArray) := by
      apply ba_eq
      unfold foldD
      rw [hq]
      dsimp only
      rw [ByteArray.data_append, ByteArray.data_append, Array.toList_append, Array.toList_append, hQd]
      subst hPA hPB
      rfl
    have hrefl : Below V.heap.size V V := Below.refl _ _
    have s3 : ¬ 9223372036854775807 < PA.size + Q.size := by have := HD.out.2.2; omega
    have s4 : ¬ 9223372036854775807 < PA.size + Q.size + PB.size := by have := HD.out.2.2; omega
    have HJ2 := Lib.hid HJ1
    have HX := Lib.hid (And.intro hfin (And.intro hbV hV))
    clear HJ1 hfin hbV gP hSV hV hf hq hS hO hb hcl hdl hPA hPB hJ hJd hJs hQ hQd hQs hPAs hPBs
    go_upto_region 4 with (fail)
    rw [HX.out.2.2]
    go_region_held3 (fun w' => w'.cell? ⟨w2.heap.size + 1, 0, none⟩ = some (.string PA) ∧ w'.cell? ⟨w2.heap.size + 1, 1, none⟩ = some (.slice A ns.length c) ∧ w'.cell? ⟨w2.heap.size + 1, 2, none⟩ = some (.string PB) ∧ Below V.heap.size V w')
      (first | assumption | exact ⟨c0, c1, c2, hrefl⟩ | exact keepF3 (by assumption) | exact keepF3 ⟨c0, c1, c2, hrefl⟩ | exact keepF3C hlt (by assumption) hb | exact keepF3C hlt (keepF3 ⟨c0, c1, c2, hrefl⟩) hb)
      (first
        | (go_at_call 49; refine (HJ2.out _ (last4 (by assumption))).mono ?_; rintro e w' ⟨rfl, hb⟩; have hbs := hb.size)
        | (go_at_call 30; refine (HFO.out _).mono ?_; rintro e w' ⟨rfl, hb⟩; have hbs := hb.size))
    have hbf : Below V.heap.size V w' := last4 (by assumption)
    have HBF := Lib.hid (HX.out.2.1.trans (hbf.mono HX.out.2.1.size))
    clear hbf
    go_wp2_with (fail)
    go_ret
    exact ⟨congrArg (fun x => Ending.returned (Value.string x)) HX.out.1, HBF.out⟩
def baL (ns : List Bs) : List ByteArray := ns.map fun x => ⟨x.toArray⟩
theorem baL_strs (ns : List Bs) : (baL ns).map Value.string = strs ns := by simp [baL, strs]
theorem baL_len (ns : List Bs) : (baL ns).length = ns.length := by simp [baL]
theorem join_flat : ∀ ns : List Bs, Lib.join ns [] = ns.flatten := by
  intro ns
  cases ns with
  | nil => rfl
  | cons x r => rw [Lib.join_cons]; simp [Lib.joinTail]
/-- strings.Join of the names of right data. -/
theorem joins_of {V : World} {A : Option Addr} {c : Nat} {ns : List Bs} (h : Sl V 1 (.slice A ns.length c) ns.length (strs ns)) (h1 : 1 ≤ ns.length) (h2 : ns.length ≤ 1000000) (h3 : ns.flatten.length ≤ 1000000) : Joins V A ns.length c ⟨ns.flatten.toArray⟩ := by
  obtain ⟨g, cap, hv, hg, hnc, hcm, hc⟩ := h.form h1
  injection hv with hA _ hcap
  subst hA hcap
  intro W hb
  have hm : (baL ns).map (·.data.toList) = ns := by unfold baL; rw [List.map_map]; exact List.map_id' ns
  have hj : Lib.join ((baL ns).map (·.data.toList)) (⟨#[]⟩ : ByteArray).data.toList = ns.flatten := by rw [hm]; exact join_flat ns
  have := join_many g 0 c (baL ns) ⟨#[]⟩ W (fun j x hx => by
    rw [Nat.zero_add]
    refine (hb.cell (p := ⟨g, j, none⟩) hg).trans (hc j _ ?_)
    rw [← baL_strs, List.getElem?_map, hx]; rfl) (Nat.lt_of_lt_of_le hg hb.size) (by rw [baL_len]; omega) (by rw [baL_len]; exact hnc) (by rw [hj]; omega)
  rw [hj, baL_len] at this
  exact this
theorem foldJ_any (t : Int) (s : ByteArray) (hs : s.size ≤ 1000000) (w : World) :
    Calls Tryz.prog 26 #[.int .u16 t, .string s] w fun e w' => e = .returned (.string ⟨(foldD t s.data.toList).toArray⟩) ∧ Below w.heap.size w w' :=
  rdFold_any t s hs w fun V p A c hp hS => by
    have hp2 := hp
    unfold lookN at hp2
    split at hp2
    · cases hp2
    · rename_i f hf
      have hcl := cutN_len (look_cut hf hp)
      have hle := formN_le' hf
      have h1 : 1 ≤ f.2.1 := by
        unfold formN at hf
        split at hf
        · cases hf; decide
        · split at hf
          · cases hf; decide
          · split at hf
            · cases hf; decide
            · split at hf
              · cases hf; decide
              · cases hf
      have hd : s.data.toList.length = s.size := by simp
      refine joins_of hS (by omega) (by omega) ?_
      have := congrArg List.length hcl.1
      simp only [List.length_append] at this
      omega
end Go.Proofs.YthnngndnpigjbaaGreat
