/- The walk of the closure of cut.cuts, as an iterator that calls its round once at most if the round then leaves. Conditions: none. -/
import Derived.Test.YtfipacfompihkaaRangeS
import Derived.Test.YtfipacfompihkaaCaG
import Derived.Test.YtfipacfompihkaaUp
namespace Go.Proofs.Ytfipacfompihkaa
open Go.RowKit Go.Lib
attribute [local go_sem] Oper.semAt_some

/-- A set, as it is told. -/
structure SV where
  nm : ByteArray
  t : Int
  l : Int
  A : Option Addr
  n : Nat
  c : Nat
def SV.val (x : SV) : Value := .agg #[.string x.nm, .int .u16 x.t, .int .u32 x.l, .slice x.A x.n x.c]
/-- The set of NS that is known of a name. -/
def hitE (V : Bs → Int → Option En) (now : Int) (up : Bs) : Option En := match gets V ⟨up.toArray⟩ 2 2 now with
  | none => none
  | some y => if y.no = true ∨ y.nm = true then none else some y
def closeE (V : Bs → Int → Option En) (now : Int) : List Bs → Option (Bs × En)
  | [] => none
  | up :: r => match hitE V now up with
    | some y => some (up, y)
    | none => closeE V now r
theorem closeE_hit {V : Bs → Int → Option En} {now : Int} : ∀ {L pre : List Bs} {x : Bs} {y : En}, pre ++ [x] <+: L → (∀ n ∈ pre, hitE V now n = none) → hitE V now x = some y → closeE V now L = some (x, y)
  | L, [], x, y, hp, _, hx => by
    obtain ⟨r, rfl⟩ := hp
    show closeE V now (x :: r) = _
    unfold closeE
    rw [hx]
  | L, p :: pre, x, y, hp, h, hx => by
    obtain ⟨r, rfl⟩ := hp
    show closeE V now (p :: (pre ++ [x] ++ r)) = _
    unfold closeE
    rw [h p (List.mem_cons_self ..)]
    exact closeE_hit ⟨r, rfl⟩ (fun n hn => h n (List.mem_cons_of_mem _ hn)) hx
theorem closeE_none {V : Bs → Int → Option En} {now : Int} : ∀ {L : List Bs}, (∀ n ∈ L, hitE V now n = none) → closeE V now L = none
  | [], _ => rfl
  | p :: L, h => by
    unfold closeE
    rw [h p (List.mem_cons_self ..)]
    exact closeE_none fun n hn => h n (List.mem_cons_of_mem _ hn)
def CutG (V : Bs → Int → Option En) (now : Int) (N : ByteArray) (x : SV) : Prop := ∃ up y, closeE V now (upsL N.data.toList) = some (up, y) ∧ x.nm = ⟨up.toArray⟩
set_option maxRecDepth 100000 in
set_option maxHeartbeats 4000000 in
theorem cuts1_S {w : World} {g mb room m : Nat} {L : Nat → Prop} {V : Bs → Int → Option En} (hC : CaV w g mb room m L V) (b1 b2 b3 : Nat) (N : ByteArray) (hN : N.size ≤ maxLen) (now : Int) (hnow : 0 ≤ now ∧ now ≤ 4611686018427387904)
    (h1 : Blk w b1 9 #[.string N]) (h2 : Blk w b2 51 #[.pointer (some ⟨g, 0, none⟩)]) (h3 : Blk w b3 2 #[.int .i64 now]) (hL : ¬ L b1 ∧ ¬ L b2 ∧ ¬ L b3) :
    SeqS Try.prog 85 #[.pointer (some ⟨b1, 0, none⟩), .pointer (some ⟨b2, 0, none⟩), .pointer (some ⟨b3, 0, none⟩)] (fun x : SV => #[x.val]) L (fun _ => False) (CutG V now N) ((closeE V now (upsL N.data.toList)).isSome = true) w := by
  intro q l J Jx W hW hJ hJx hY h0
  obtain ⟨rb, T, F, hca, hV⟩ := hC
  obtain ⟨n, hn⟩ : ∃ n : Nat, 8 ≤ n := ⟨8, by omega⟩
  refine callsIn_wide.2 ((callsIn_wide (n := n)).1 ?_)
  have h1n : 1 ≤ n := by omega
  have g1 : Blk W b1 9 #[.string N] := h1.below hW h1.lt
  have g2 : Blk W b2 51 #[.pointer (some ⟨g, 0, none⟩)] := h2.below hW h2.lt
  have g3 : Blk W b3 2 #[.int .i64 now] := h3.below hW h3.lt
  have gl := hW.size
  have hl1 := h1.lt
  have hl2 := h2.lt
  have hl3 := h3.lt
  have c1 : (W.alloc (.cells #[.func (.yield l) #[] #[]] 142)).cell? ⟨b1, 0, none⟩ = some (.string N) := (g1.alloc _).cell 0
  refine callsIn_of_wp_marks Try.func85 rfl trivial ?_ rfl
  simp only [Try.ntmps85, List.size_toArray, List.length_cons, List.length_nil, Nat.reduceAdd, Nat.reduceSub, Array.replicate_succ, Array.replicate_zero, List.push_toArray, List.append_toArray, List.nil_append, List.cons_append]
  gi_wp2_with (refine ⟨trivial, ?_⟩; gi_at_call 86; refine (Up_in _ N _).mono ?_; rintro e w' ⟨rfl, rfl⟩)
  obtain ⟨W0, hW0⟩ : ∃ W0, (W.alloc (.cells #[.func (.yield l) #[] #[]] 142)).alloc (.cells #[.string N] 9) = W0 := ⟨_, rfl⟩
  have hsz0 : W0.heap.size = W.heap.size + 2 := by rw [← hW0]; simp
  have hbW : Below W.heap.size W W0 := by rw [← hW0]; exact ((Below.refl _ _).alloc (Nat.le_refl _) _).alloc (by simp) _
  have y0 : Blk W0 W.heap.size 142 #[.func (.yield l) #[] #[]] := by rw [← hW0]; exact (Blk.new W _ _).alloc _
  have e0 : Blk W0 (W.heap.size + 1) 9 #[.string N] := by
    rw [← hW0]
    have := Blk.new (W.alloc (.cells #[.func (.yield l) #[] #[]] 142)) 9 #[.string N]
    rw [World.size_alloc] at this
    exact this
  have k2 : Blk W0 b2 51 #[.pointer (some ⟨g, 0, none⟩)] := g2.below hbW (by omega)
  have k3 : Blk W0 b3 2 #[.int .i64 now] := g3.below hbW (by omega)
  have hwW0 : Below w.heap.size w W0 := hW.trans (hbW.mono gl)
  have hLw : ∀ i, L i → i < w.heap.size := fun i hi => hca.rg.lt hi
  rw [hW0]
  clear hW0 c1 g1 g2 g3
  apply rangeN (gf := 107) (lb := #[.pointer (some ⟨W.heap.size + 1, 0, none⟩)]) rfl (enters_of Try.func107 (by kernel_rfl) rfl)
    (Up1_N (W.heap.size + 1) N hN W0 e0) (by omega) (Below.refl _ _) (fun _ => rfl)
    (fun X pre V' => J X V' ∧ (Ca V' g mb rb room m L T F ∧ Blk V' W.heap.size 142 #[.func (.yield l) #[] #[]] ∧ Blk V' b2 51 #[.pointer (some ⟨g, 0, none⟩)] ∧ Blk V' b3 2 #[.int .i64 now]) ∧ (∀ u ∈ pre, hitE V now u = none) ∧ W0.heap.size ≤ X ∧ W0.heap.size ≤ V'.heap.size)
    (fun X c pre V' => c = .ret ∧ Jx X V' ∧ W0.heap.size ≤ X ∧ (closeE V now (upsL N.data.toList)).isSome = true)
    ?hI ?hIx ?h0
  case hI =>
    rintro X pre A A' ⟨j1, ⟨j2, j3, j4, j5⟩, j6, j7, j8⟩ ho
    have hk : ∀ i, i < w.heap.size → A'.heap[i]? = A.heap[i]? := fun i hi => ho.block i (by omega) (.inl (by omega))
    exact ⟨hJ _ _ _ j1 ⟨ho.os, ho.tape, ho.output, ho.size, fun i hi h _ => ho.block i hi (by omega)⟩, ⟨hca.via j2 ho.size hk, (ho.block _ (by omega) (.inl (by omega))).trans j3, (ho.block _ (by omega) (.inl (by omega))).trans j4, (ho.block _ (by omega) (.inl (by omega))).trans j5⟩, j6, j7, Nat.le_trans j8 ho.size⟩
  case hIx =>
    rintro X c pre A A' ⟨j1, j2, j3, j4⟩ ho
    exact ⟨j1, hJx _ _ _ j2 ⟨ho.os, ho.tape, ho.output, ho.size, fun i hi h _ => ho.block i hi (by omega)⟩, j3, j4⟩
  case h0 =>
    intro X V' hV' hX
    have z := hV'.size
    exact ⟨h0 X V' (hbW.trans (hV'.mono hbW.size)) hX, ⟨hca.low (hwW0.trans (hV'.mono hwW0.size)), y0.below hV' (by omega), k2.below hV' (by omega), k3.below hV' (by omega)⟩, (fun u hu => by cases hu), by omega, by omega⟩
  case hassign =>
    intro l' x V' K hK
    gi_wp2
    exact hK
  case hbody =>
    rintro l' X pre x V' hV2 ⟨hj, ⟨hc4, hy4, h24, h34⟩, hpr, hX, hz⟩ hpre
    have hqn : isName N.data.toList = true := by
      cases h : isName N.data.toList with
      | true => rfl
      | false =>
        obtain ⟨r, hr⟩ := hpre
        rw [show upsL N.data.toList = [] from by unfold upsL; rw [h]; rfl] at hr
        simp at hr
    have hxs : (⟨x.toArray⟩ : ByteArray).size ≤ maxLen := by
      obtain ⟨r, hr⟩ := hpre
      have hm : x ∈ upsL N.data.toList := by rw [← hr]; simp
      rw [ups_yes hqn] at hm
      obtain ⟨k, _, rfl⟩ := List.mem_map.1 hm
      have h7 : N.data.toList.length = N.size := by simp
      show (N.data.toList.drop _).toArray.size ≤ _
      simp only [List.size_toArray, List.length_drop]
      omega
    have hG := get_ca hc4 hV ⟨x.toArray⟩ hxs 2 2 now (by omega) hnow
    have HG := Lib.hid (CallsIn.inRound l' (callsIn_wide (n := n - 1 - 1 - 1)|>.2 hG))
    have c2 := h24.cell 0
    have c3 := h34.cell 0
    have HH := Lib.hid (And.intro hj (And.intro hc4 (And.intro hy4 (And.intro h24 (And.intro h34 (And.intro hpr (And.intro hX (And.intro hz (And.intro hpre hV2)))))))))
    have HO := Lib.hid (And.intro hca (And.intro hV (And.intro hLw (And.intro hJ (And.intro hJx (And.intro hY (And.intro hsz0 (And.intro gl (And.intro hbW hwW0)))))))))
    obtain ⟨o, ho⟩ : ∃ o, gets V ⟨x.toArray⟩ 2 2 now = o := ⟨_, rfl⟩
    have HOE := Lib.hid ho
    have HL := Lib.hid hL
    clear hsz0 hG hj hc4 hy4 h24 h34 hpr hX hz hpre hV2 hJ hJx hY h0 hW hca hV hbW hwW0 hLw h1 h2 h3 hL y0 e0 k2 k3 hN hnow hxs hqn ho
    gi_wp2_with (fail)
    refine ⟨trivial, fun _ => by omega, ?_⟩
    refine HG.out.mono ?_
    rintro e w5 ⟨hge, hc5, hk5⟩
    rw [HOE.out] at hge
    have STAY : RowKit.Hid (∀ (a : Act) (ob : Obj), hitE V now x = none → postN W0.heap.size (W.heap.size + 1)
        (fun pre V' => J X V' ∧ (Ca V' g mb rb room m L T F ∧ Blk V' W.heap.size 142 #[.func (.yield l) #[] #[]] ∧ Blk V' b2 51 #[.pointer (some ⟨g, 0, none⟩)] ∧ Blk V' b3 2 #[.int .i64 now]) ∧ (∀ u ∈ pre, hitE V now u = none) ∧ W0.heap.size ≤ X ∧ W0.heap.size ≤ V'.heap.size)
        (fun c pre V' => c = .ret ∧ Jx X V' ∧ W0.heap.size ≤ X ∧ (closeE V now (upsL N.data.toList)).isSome = true)
        (pre ++ [x]) V' Exit.normal a (w5.alloc ob)) := Lib.hid (fun a ob hit => by
      obtain ⟨hj, hc4, hy4, h24, h34, hpr, hX, hz, hpre, hV2⟩ := HH.out
      obtain ⟨hca, hV, hLw, hJ, hJx, hY, hsz0, gl, hbW, hwW0⟩ := HO.out
      have hkb : KeepK (fun i => i < V'.heap.size ∧ ¬ L i) V' (w5.alloc ob) := hk5.alloc (fun i hi => Nat.lt_of_lt_of_le hi.1 hk5.size) ob
      have hnL : ∀ i, w.heap.size ≤ i → ¬ L i := fun i hi h => by have := hLw i h; omega
      refine ⟨⟨hkb.size, fun i hi h => hkb.block i ⟨hi, hnL i (by omega)⟩⟩, hJ _ _ _ hj ⟨hkb.os, hkb.tape, hkb.output, hkb.size, fun i hi _ h => hkb.block i ⟨hi, h⟩⟩, ⟨hc5.low ((Below.refl _ _).alloc (Nat.le_refl _) _), hy4.keepK hkb ⟨hy4.lt, hnL _ gl⟩, h24.keepK hkb ⟨h24.lt, HL.out.2.1⟩, h34.keepK hkb ⟨h34.lt, HL.out.2.2⟩⟩, fun u hu => ?_, hX, Nat.le_trans hz hkb.size⟩
      rcases List.mem_append.1 hu with h | h
      · exact hpr u h
      · rw [List.mem_singleton.1 h]; exact hit)
    have H5 := Lib.hid (And.intro hc5 hk5)
    clear hc5 hk5
    cases o with
    | none =>
      have hge2 : e = .returned (.tuple #[noFound, .bool false]) := hge
      subst hge2
      dsimp only [noFound]
      clear hge
      gi_wp2_with (fail)
      exact STAY.out _ _ (by unfold hitE; rw [HOE.out])
    | some y =>
      obtain ⟨yn, yt, yl, yxs, yrk, yno, ynm, yun⟩ := y
      obtain ⟨A5, k5, hge2, _, _⟩ : ∃ A c, e = .returned (.tuple #[foundV ⟨yn, yt, yl, yxs, yrk, yno, ynm, yun⟩ A c (min (yun - now) 604800), .bool true]) ∧ _ ∧ _ := hge
      subst hge2
      dsimp only [foundV]
      obtain ⟨ml, hml⟩ : ∃ ml, min (yun - now) 604800 = ml := ⟨_, rfl⟩
      rw [hml]
      clear hml
      cases yno with
      | true =>
        gi_wp2_with (fail)
        exact STAY.out _ _ (by unfold hitE; rw [HOE.out]; rfl)
      | false =>
        cases ynm with
        | true =>
          gi_wp2_with (fail)
          exact STAY.out _ _ (by unfold hitE; rw [HOE.out]; rfl)
        | false =>
          clear STAY
          obtain ⟨y, hy⟩ : ∃ y : En, y = ⟨yn, yt, yl, yxs, yrk, false, false, yun⟩ := ⟨_, rfl⟩
          have hcl : closeE V now (upsL N.data.toList) = some (x, y) := closeE_hit HH.out.2.2.2.2.2.2.2.2.1 HH.out.2.2.2.2.2.1 (by unfold hitE; rw [HOE.out, hy]; rfl)
          have HCL := Lib.hid hcl
          have y5 := (HH.out.2.2.1.keepK H5.out.2 ⟨HH.out.2.2.1.lt, fun h => by have := HO.out.2.2.1 _ h; omega⟩)
          have y0 := y5.cell 0
          have yl5 := y5.lt
          obtain ⟨W6, hW6⟩ : ∃ W6, (w5.alloc (.cells #[.string yn, .int .u16 yt, .int .u32 ml, .slice A5 yxs.length k5, .int .u8 yrk, .bool false, .bool false] 62)).alloc (.cells #[.string ⟨x.toArray⟩, .int .u16 yt, .int .u32 ml, .slice A5 yxs.length k5] 49) = W6 := ⟨_, rfl⟩
          have hk6 : KeepK (fun i => i < V'.heap.size ∧ ¬ L i) V' W6 := by
            rw [← hW6]
            exact (H5.out.2.alloc (fun i hi => Nat.lt_of_lt_of_le hi.1 H5.out.2.size) _).alloc (fun i hi => by have := H5.out.2.size; have := hi.1; simp; omega) _
          have hj6 : J X W6 := HO.out.2.2.2.1 _ _ _ HH.out.1 ⟨hk6.os, hk6.tape, hk6.output, hk6.size, fun i hi _ h => hk6.block i ⟨hi, h⟩⟩
          obtain ⟨fn, tmps, assign, body, hyl, hR⟩ := yield_deep (m := n - 1 - 1 - 1) (HO.out.2.2.2.2.2.1 X ⟨⟨x.toArray⟩, yt, ml, A5, yxs.length, k5⟩ W6 hj6 ⟨x, y, hcl, rfl⟩)
          dsimp only [SV.val] at hyl
          rw [← hW6] at hyl
          have hR2 : RoundIn (Fence.wide.inRound l') (n - 1 - 1 - 1) Try.prog l fn tmps assign body W6 fun e W' => e = .returned (.bool false) ∧ Jx X W' ∧ KeepZ (fun _ => False) W.heap.size W6 W' := RoundIn.mono (F := Fence.wide) hR fun e W' h => h
          have HR := Lib.hid hR2
          have H6 := Lib.hid (And.intro hk6 hW6)
          clear hcl hy y5 hk6 hj6 hR hR2 hW6
          gi_wp2_with (fail)
          rw [H6.out.2]
          refine ⟨fun h => by simp [Fence.wide] at h, ?_⟩
          refine HR.out.mono ?_
          rintro e W7 ⟨rfl, h7, hk7⟩
          have H7 := Lib.hid (And.intro h7 hk7)
          clear h7 hk7
          gi_wp2_with (fail)
          obtain ⟨hca, hV, hLw, hJ, hJx, hY, hsz0, gl, hbW, hwW0⟩ := HO.out
          have hk6 := H6.out.1
          have hz6 := hk6.size
          refine ⟨⟨Nat.le_trans hz6 H7.out.2.size, fun i hi h => (H7.out.2.same i (by omega) (.inl (by omega))).trans (hk6.block i ⟨hi, fun h2 => by have := hLw i h2; omega⟩)⟩, rfl, H7.out.1, HH.out.2.2.2.2.2.2.1, by rw [HCL.out]; rfl⟩
  case hdone =>
    rintro D X V' hD hD2 ⟨hj, _, hpr, hX, hz⟩ hK
    have hcn := closeE_none hpr
    have HN := Lib.hid (And.intro hj hcn)
    clear hj hpr hcn
    gi_wp2_with (fail)
    exact ⟨by simp, .inl ⟨_, _, rfl, run_takeDeferred hK, _, results_none rfl _ _ _, ⟨_, rfl⟩, X, .inr ⟨by rw [HN.out.2]; simp, hJ _ _ _ HN.out.1 (.put _ ⟨by omega, hD2⟩)⟩⟩⟩
  case hstop =>
    rintro D X c pre V' hD hD2 hpre ⟨rfl, hj, hX, hs⟩ hK
    have HN := Lib.hid (And.intro hj hs)
    clear hj hs
    gi_wp2_with (fail)
    exact ⟨by simp, .inl ⟨_, _, rfl, run_takeDeferred hK, _, results_none rfl _ _ _, ⟨_, rfl⟩, X, .inl ⟨HN.out.2, hJx _ _ _ HN.out.1 (.put _ ⟨by omega, hD2⟩)⟩⟩⟩
end Go.Proofs.Ytfipacfompihkaa
