/- The walk of package label's Print. -/
import Derived.Test.YtjhhhkhcnohmiaaParse
import Derived.Test.YtjhhhkhcnohmiaaLabelsM
import Derived.Test.YtjhhhkhcnohmiaaParent
import Derived.RangeFuncNested
import Derived.RangeFuncBound
import Derived.RangeFuncCalls
import Derived.RangeFuncLeaves
import Derived.RangeFuncBox
import Derived.RangeFuncFrom
import Derived.Shelf.Abstract
import Derived.Shelf.RegionOpen
import Derived.Shelf.AbstractIn
import Derived.TacticsInMore
import Derived.LoopNIn
import Derived.LoopIn
import Derived.Sort.LoopGhostIn
import Derived.Sort.QuietIn
import Derived.Stop.RegionWithIn
namespace Go.Proofs.Ytjhhhkhcnohmiaa
open Go.RowKit Go.Shelf Go.Lib
attribute [local go_sem] Oper.semAt_some

/-- A label as it stands in a text; many. -/
def printB (x : Bs) : Bs := x.flatMap tellB ++ [46]
def printT (ls : List Bs) : Bs := ls.flatMap printB
theorem tells_len : ∀ x : Bs, (x.flatMap tellB).length ≤ 4 * x.length
  | [] => by simp
  | c :: t => by
    have h1 := tellB_len c
    have h2 := tells_len t
    rw [List.flatMap_cons, List.length_append, List.length_cons]
    omega
theorem printT_len : ∀ ls : List Bs, (printT ls).length ≤ 4 * (enc ls).length
  | [] => by simp [printT]
  | x :: xs => by
    have h1 := tells_len x
    have h2 := printT_len xs
    unfold printT at h2 ⊢
    rw [List.flatMap_cons, List.length_append, enc_length_cons]
    unfold printB
    rw [List.length_append, List.length_singleton]
    unfold printB at h2
    omega
/-- What Print answers. -/
def printP (n : Bs) : Bs × Int := if isName n = false then ([], 2) else if n = [0] then ([46], 0) else (printT (labs n).1, 0)
theorem Bd.out {K : Nat → Prop} {A A' : World} {b B X : Nat} {l : List UInt8} (h : Bd K A b l) (ho : Out B X A A') (hb : b < B) (hK : ∀ g, ¬ K g → g ≠ b → X ≤ g) : Bd K A' b l := by
  obtain ⟨h1, p, v, h2, h3, h4, h5⟩ := h
  exact ⟨fun i hi => ⟨Nat.lt_of_lt_of_le (h1 i hi).1 ho.size, (h1 i hi).2⟩, p, v, h2, (ho.block _ h3.lt (.inl hb)).trans h3, own_keep h4 (fun g e => ho.block g ((Sl.of_own h4).lt g e) (.inr (hK g (h5 g e).2 (h5 g e).1))), h5⟩

set_option maxRecDepth 100000 in
set_option maxHeartbeats 4000000 in
theorem Print_any (n : ByteArray) (hs : n.size ≤ maxLen) (w : World) : Calls Try.prog 49 #[.string n] w fun e w' => e = .returned (.tuple #[.string ⟨(printP n.data.toList).1.toArray⟩, .int .i64 (printP n.data.toList).2]) ∧ Below w.heap.size w w' := by
  obtain ⟨m, hm⟩ : ∃ m : Nat, 8 ≤ m := ⟨8, by omega⟩
  refine (callsIn_wide (n := m)).1 ?_
  have h1n : 1 ≤ m := by omega
  obtain ⟨x, hx⟩ : ∃ x, printP n.data.toList = x := ⟨_, rfl⟩
  rw [hx]
  have hCk := fun W => (callsIn_wide (n := m - 1)).2 (Check_any n hs W)
  unfold printP at hx
  rcases chk_cases n.data.toList with ⟨hn1, hn2⟩ | ⟨hn1, hn2⟩
  · rw [hn2] at hCk
    rw [if_neg (by rw [hn1]; simp)] at hx
    have HCk := Lib.hid hCk
    clear hCk
    by_cases h0 : n.data.toList = [0]
    · rw [if_pos h0] at hx
      have : n = ⟨#[0]⟩ := by
        apply ByteArray.ext
        apply Array.toList_inj.1
        exact h0
      subst this hx
      clear h0 hn1 hn2 hs
      refine callsIn_of_wp_marks Try.func49 rfl trivial ?_ rfl
      simp only [Try.ntmps49, List.size_toArray, List.length_cons, List.length_nil, Nat.reduceAdd, Nat.reduceSub, Array.replicate_succ, Array.replicate_zero, List.push_toArray, List.append_toArray, List.nil_append, List.cons_append]
      gi_wp2_with (refine ⟨trivial, ?_⟩; gi_at_call 22; refine (HCk.out _).mono ?_; rintro e w1 ⟨rfl, hb1⟩)
      exact ⟨_, results_tmp2 (t := 2) (u := 3) rfl _ _ _, rfl, hb1⟩
    · rw [if_neg h0] at hx
      have e0 : (n.toList == [0]) = false := by rw [ByteArray.toList_eq, beq_eq_false_iff_ne]; exact h0
      have hnl := namL_yes hn1
      have hlen255 : n.data.toList.length ≤ 255 := ((isName_iff _).1 hn1).1
      have hen := enc_le n.data.toList
      have HN := Lib.hid (And.intro hx (And.intro (show (enc (labs n.data.toList).1).length ≤ 255 from by omega) (And.intro hn1 h0)))
      have HS := Lib.hid hs
      clear hx hlen255 hen h0 hn1 hn2 hs
      refine callsIn_of_wp_marks Try.func49 rfl trivial ?_ rfl
      simp only [Try.ntmps49, List.size_toArray, List.length_cons, List.length_nil, Nat.reduceAdd, Nat.reduceSub, Array.replicate_succ, Array.replicate_zero, List.push_toArray, List.append_toArray, List.nil_append, List.cons_append]
      gi_wp2_with (first
        | (refine ⟨trivial, ?_⟩; gi_at_call 22; refine (HCk.out _).mono ?_; rintro e w1 ⟨rfl, hb1⟩; have HB1 := Lib.hid hb1; clear hb1)
        | (refine ⟨trivial, ?_⟩; gi_at_call 55; refine (Labels_in _ n _).mono ?_; rintro e w' ⟨rfl, rfl⟩))
      have hb1 := HB1.out
      obtain ⟨W0, hW0⟩ : ∃ W0, (w1.alloc (.cells #[.pointer none, .slice none 0 0] 86)).alloc (.cells #[.string n] 9) = W0 := ⟨_, rfl⟩
      have hsz0 : W0.heap.size = w1.heap.size + 2 := by rw [← hW0]; simp
      have hbW : Below w.heap.size w W0 := by rw [← hW0]; exact (hb1.alloc hb1.size _).alloc (by have := hb1.size; simp; omega) _
      have hbd : Blk W0 w1.heap.size 86 #[.pointer none, .slice none 0 0] := by
        rw [← hW0]
        exact (Blk.new w1 _ _).alloc _
      have hcap : Blk W0 (w1.heap.size + 1) 9 #[.string n] := by
        rw [← hW0]
        have := Blk.new (w1.alloc (.cells #[.pointer none, .slice none 0 0] 86)) 9 #[.string n]
        rw [World.size_alloc] at this
        exact this
      have hw1 : w.heap.size ≤ w1.heap.size := hb1.size
      rw [hW0]
      clear hW0 HB1 hb1
      apply rangeM (gf := 80) (lb := #[.pointer (some ⟨w1.heap.size + 1, 0, none⟩)]) rfl (enters_of Try.func80 (by kernel_rfl) rfl)
        (Labels1_M (w1.heap.size + 1) n HS.out W0 hcap) (by omega) (Below.refl _ _) (fun _ => rfl)
        (fun X pre V => Bd (fun i => i < X ∧ i ≠ w1.heap.size) V w1.heap.size (printT pre) ∧ Below w.heap.size w V ∧ W0.heap.size ≤ X)
        (fun _ _ _ _ => False)
        ?hI (fun _ _ _ _ _ h => h.elim) ?h0
      case hI =>
        rintro X pre A A' ⟨h1, h2, h3⟩ ho
        exact ⟨h1.out ho (by omega) (fun g hg hne => by omega), ho.below h2 (Nat.le_refl _) hbW.size, h3⟩
      case h0 =>
        intro X V hV hX
        refine ⟨?_, hbW.trans (hV.mono hbW.size), by have := hV.size; omega⟩
        exact ⟨fun i hi => ⟨by omega, hi.2⟩, _, _, .inl rfl, (hV.block _ (by omega)).trans hbd, World.ownsRow_nil _ _ _ _, fun g hg => by simp [Value.ownBlock] at hg⟩
      case hassign =>
        intro l x V K hK
        gi_wp2
        exact hK
      case hbody =>
        rintro l X pre x V hV ⟨hB, hbV, hX⟩ hpre
        rw [hnl] at hpre
        obtain ⟨e, he⟩ : ∃ e : ByteArray, (⟨x.toArray⟩ : ByteArray) = e := ⟨_, rfl⟩
        have hes : e.size = x.length := by rw [← he]; exact ba_size x
        have hel : e.data.toList = x := by rw [← he]
        have hlen : (printT pre).length + 4 * x.length + 1 ≤ 1020 := by
          obtain ⟨r, hr⟩ := hpre
          have h1 : (enc (pre ++ [x])).length ≤ (enc (labs n.data.toList).1).length := by
            rw [← hr, enc_append (pre ++ [x]) r, List.length_append]; omega
          have h2 := HN.out.2.1
          rw [enc_append, List.length_append, enc_length_cons] at h1
          have h3 := printT_len pre
          omega
        have hxI : (e.size : Int) ≤ 255 := by omega
        have HB := Lib.hid (And.intro hB (And.intro hbV (And.intro hX (And.intro hlen (And.intro hes hel)))))
        have HZ := Lib.hid (And.intro hsz0 (And.intro hw1 hV))
        have hat : ∀ k (h : k < e.size), x[k]? = some (e[k]'h) := fun k h => by
          rw [← hel, List.getElem?_eq_getElem (by simpa using h)]; rfl
        have HAT := Lib.hid hat
        rw [he]
        clear hB hbV hX hlen hes hel hpre hat he hsz0 hw1 hV hbW hbd hcap hnl
        gi_wp2_with (fail)
        gi_loopg [17] e.size (fun g v17 wr => ∃ k : Nat, g + k = e.size ∧ v17 = .int .i64 (k : Int) ∧ Aside (Bd (fun i => i < X ∧ i ≠ w1.heap.size) wr w1.heap.size (printT pre ++ (x.take k).flatMap tellB)) ∧ Aside (KeepK (fun i => i < X ∧ i ≠ w1.heap.size) V wr))
        case atStart => exact ⟨0, by omega, rfl, (show Bd _ _ _ _ from by rw [List.take_zero, List.flatMap_nil, List.append_nil]; exact HB.out.1), KeepK.refl _ _⟩
        case round =>
          obtain ⟨k, hg, rfl, hS, hK⟩ := hrel
          by_cases hlt : k < e.size
          · have hltI : (k : Int) < (e.size : Int) := by omega
            have hat := HAT.out k hlt
            have htk : x.take (k + 1) = x.take k ++ [e[k]'hlt] := by
              obtain ⟨h1, h2⟩ := List.getElem?_eq_some_iff.1 hat
              rw [List.take_succ_eq_append_getElem h1, h2]
            have HT := Lib.hid (tell_any (e[k]'hlt) hS.out (by
              have h1 := HB.out.2.2.2.1
              have h2 := tells_len (x.take k)
              have h3 : (x.take k).length ≤ x.length := by rw [List.length_take]; omega
              rw [List.length_append]; omega))
            have HE := Lib.hid htk
            clear hat htk
            gi_wp2_with (fail)
            refine ⟨trivial, fun _ => by omega, ?_⟩
            refine (CallsIn.inRound l (callsIn_wide.2 HT.out)).mono ?_
            rintro e1 w2 ⟨rfl, h1, h2⟩
            have H1 := Lib.hid (And.intro h1 (hK.out.trans h2))
            clear h1 h2
            gi_wp2_with (fail)
            gi_roundg (e.size - (k + 1))
            case measure => omega
            case rel =>
              refine ⟨k + 1, by omega, by go_num, ?_, H1.out.2⟩
              show Bd _ _ _ _
              rw [HE.out, List.flatMap_append, ← List.append_assoc]
              simpa using H1.out.1
          · obtain rfl : k = e.size := by omega
            have hS' := hS.out
            rw [List.take_of_length_le (by have := HB.out.2.2.2.2.1; omega)] at hS'
            have HT := Lib.hid (bWB 46 46 rfl (by omega) hS' (by
              have h1 := HB.out.2.2.2.1
              have h2 := tells_len x
              rw [List.length_append]; omega))
            clear hS' hlt hg
            gi_wp2_with (fail)
            refine ⟨trivial, fun _ => by omega, ?_⟩
            refine (CallsIn.inRound l (callsIn_wide.2 HT.out)).mono ?_
            rintro e1 w2 ⟨rfl, h1, h2⟩
            have H1 := Lib.hid (And.intro h1 (hK.out.trans h2))
            clear h1 h2
            gi_wp2_with (fail)
            obtain ⟨hB, hbV, hX, _, _, _⟩ := HB.out
            obtain ⟨hsz0, hw1, hV⟩ := HZ.out
            obtain ⟨h1, h2⟩ := H1.out
            refine ⟨⟨h2.size, fun i hi h3 => h2.block i ⟨by omega, by omega⟩⟩, ?_, hbV.trans (h2.below fun i hi => ⟨by omega, by omega⟩), hX⟩
            have e5 : printT (pre ++ [x]) = printT pre ++ x.flatMap tellB ++ [46] := by simp [printT, printB]
            rw [e5]
            exact h1
      case hdone =>
        rintro D X V hD hD2 ⟨hB, hbV, hX⟩ hK
        rw [hnl] at hB
        have hne : printT (labs n.data.toList).1 ≠ [] := by
          intro h
          have hn1 := name_first HN.out.2.2.1 HN.out.2.2.2
          match hl : (labs n.data.toList).1, hn1 with
          | y :: ys, _ =>
            rw [hl] at h
            simp [printT, printB] at h
        have HT := Lib.hid (bString_some hB hne)
        have HZ := Lib.hid (And.intro hsz0 (And.intro hw1 (And.intro hbV (And.intro hX hbW))))
        clear hB hne hsz0 hw1 hbV hX hbW hbd hcap hnl
        gi_wp2_with (fail)
        refine ⟨trivial, (callsIn_wide.2 HT.out).mono ?_⟩
        rintro e w2 ⟨rfl, h2⟩
        obtain ⟨hsz0, hw1, hbV, hX, hbW⟩ := HZ.out
        have hK2 : w2.heap[D]? = some (.deferred (some [])) := (h2.block D ⟨hD2, by omega⟩).trans hK
        have hb2 : Below w.heap.size w w2 := hbV.trans (h2.below fun i hi => ⟨by omega, by omega⟩)
        have HF : Hid (Below w.heap.size w (w2.putObj D (.deferred none))) := Lib.hid (hb2.trans (belowK_b (w := w) (Nat.le_refl _) w2 D _ _ (by omega) hK2 rfl rfl))
        clear h2 hsz0 hw1 hbV hX hbW hb2 hK HT
        gi_wp2_with (fail)
        have hx := HN.out.1
        subst hx
        exact ⟨by simp, .inl ⟨_, _, rfl, run_takeDeferred hK2, _, results_tmp2 (t := 2) (u := 3) rfl _ _ _, rfl, HF.out⟩⟩
      case hstop =>
        rintro D X c pre V hD _ _ h _
        exact h.elim
  · rw [hn2] at hCk
    rw [if_pos hn1] at hx
    subst hx
    have HCk := Lib.hid hCk
    clear hCk hn1 hn2 hs
    refine callsIn_of_wp_marks Try.func49 rfl trivial ?_ rfl
    simp only [Try.ntmps49, List.size_toArray, List.length_cons, List.length_nil, Nat.reduceAdd, Nat.reduceSub, Array.replicate_succ, Array.replicate_zero, List.push_toArray, List.append_toArray, List.nil_append, List.cons_append]
    gi_wp2_with (refine ⟨trivial, ?_⟩; gi_at_call 22; refine (HCk.out _).mono ?_; rintro e w1 ⟨rfl, hb1⟩)
    exact ⟨_, results_tmp2 (t := 2) (u := 3) rfl _ _ _, rfl, hb1⟩
end Go.Proofs.Ytjhhhkhcnohmiaa
