/- The walk of package label's Join. -/
import Derived.Test.YtenmhfhnhfhooaaDoorBuilder
import Derived.Test.YtenmhfhnhfhooaaDoorCut
import Derived.Test.YtenmhfhnhfhooaaDoorTTab
namespace Go.Proofs.YtenmhfhnhfhooaaDoor
open Go.RowKit Go.Lib

def okLb (x : Bs) : Bool := decide (1 ≤ x.length) && decide (x.length ≤ 63)
theorem okLb_iff (x : Bs) : okLb x = true ↔ okL x := by simp [okLb, okL]
/-- What Join answers. -/
def joinP (n : Bs) (ls : List Bs) : Bs × Int :=
  if isName n = false then ([], 2) else if ls.all okLb = false then ([], 2) else if 255 < (enc ls).length + n.length then ([], 7) else (enc ls ++ n, 0)
theorem enc_bound : ∀ ls : List Bs, (∀ x ∈ ls, okL x) → (enc ls).length ≤ 64 * ls.length
  | [], _ => by simp [enc]
  | x :: xs, h => by
    have h1 := h x (by simp)
    have h2 := enc_bound xs (fun y hy => h y (by simp [hy]))
    unfold okL at h1
    rw [enc_length_cons, List.length_cons]
    omega
theorem strs_at {ls : List Bs} {k : Nat} {x : Bs} (h : ls[k]? = some x) : (strs ls)[k]? = some (.string ⟨x.toArray⟩) := by simp [strs, h]
theorem ba_size (x : Bs) : (⟨x.toArray⟩ : ByteArray).size = x.length := by simp [ByteArray.size]

set_option maxRecDepth 100000 in
set_option maxHeartbeats 8000000 in
theorem Join_any (n : ByteArray) (hn : n.size ≤ maxLen) (A : Option Addr) (c : Nat) (ls : List Bs) (w : World) (hT : TTab w A (strs ls)) (hl : ls.length ≤ 1000000) :
    Calls Tryd.prog 13 #[.string n, .slice A ls.length c] w fun e w' => e = .returned (.tuple #[.string ⟨(joinP n.data.toList ls).1.toArray⟩, .int .i64 (joinP n.data.toList ls).2]) ∧ Below w.heap.size w w' := by
  have HT := Lib.hid hT
  have HCk := Lib.hid (fun W => Check_any n hn W)
  have hlI : (ls.length : Int) ≤ 1000000 := by omega
  have hszn : n.data.toList.length = n.size := by simp
  clear hT
  rcases chk_cases n.data.toList with ⟨hn1, hn2⟩ | ⟨hn1, hn2⟩
  · rw [hn2] at HCk
    have hn255 : n.size ≤ 255 := by have := ((isName_iff _).1 hn1).1; omega
    have hnI : (n.size : Int) ≤ 255 := by omega
    have HN := Lib.hid (And.intro hn1 (And.intro hszn hl))
    obtain ⟨x, hx⟩ : ∃ x, joinP n.data.toList ls = x := ⟨_, rfl⟩
    rw [hx]
    have HX := Lib.hid hx
    clear hn1 hn2 hszn hn hl hx
    go_enter Tryd.func13, Tryd.ntmps13
    go_wp2_with (fail)
    refine (HCk.out _).mono ?_
    rintro e w1 ⟨rfl, hb⟩
    have B1 := Lib.hid hb
    clear hb HCk
    go_wp2_with (fail)
    go_loopg [6, 19] ls.length (fun g v6 v19 wr => ∃ (k m : Nat), g + k = ls.length ∧ v6 = .int .i64 (m : Int) ∧ v19 = .int .i64 (k : Int) ∧ wr = w1 ∧ m ≤ 64 * k + 255 ∧ Aside (m = n.size + (enc (ls.take k)).length) ∧ Aside (∀ x ∈ ls.take k, okL x))
    case atStart => exact ⟨0, n.size, by omega, rfl, rfl, rfl, by omega, (show Aside _ from (by simp [enc] : n.size = n.size + (enc (ls.take 0)).length)), (show Aside _ from fun x hx => by simp at hx)⟩
    case round =>
      obtain ⟨k, m, hg, rfl, rfl, rfl, hm, hme, hall⟩ := hrel
      by_cases hlt : k < ls.length
      · obtain ⟨b0, o, rfl, hal, hac⟩ := HT.out (by simp [strs]; omega)
        obtain ⟨x0, hx0⟩ : ∃ x0, ls[k]? = some x0 := ⟨_, List.getElem?_eq_getElem hlt⟩
        obtain ⟨e, he⟩ : ∃ e : ByteArray, (⟨x0.toArray⟩ : ByteArray) = e := ⟨_, rfl⟩
        have hes : e.size = x0.length := by rw [← he]; exact ba_size x0
        have a0 : wr.cell? ⟨b0, o + k, none⟩ = some (.string e) := by rw [B1.out.cell (p := ⟨b0, o + k, none⟩) hal, ← he]; exact hac k _ (strs_at hx0)
        have hltI : (k : Int) < (ls.length : Int) := by omega
        have hmI : (m : Int) ≤ 64 * (k : Int) + 255 := by omega
        have htk : ls.take (k + 1) = ls.take k ++ [x0] := by
          obtain ⟨hlt', rfl⟩ := List.getElem?_eq_some_iff.1 hx0
          exact List.take_succ_eq_append_getElem hlt'
        have hmem := List.mem_of_getElem? hx0
        clear hac
        by_cases hok : okL x0
        · have hok2 := hok
          unfold okL at hok2
          have e1 : ((e.size : Int) == 0) = false := by rw [beq_eq_false_iff_ne]; omega
          have e2 : ¬ (63 : Int) < (e.size : Int) := by omega
          have e3 : (e.size : Int) ≤ 63 := by omega
          have HE := Lib.hid (And.intro htk (And.intro hok hes))
          clear htk hok hok2 hes he hx0 hmem
          go_wp2_with (fail)
          go_roundg (ls.length - (k + 1))
          case measure => omega
          case rel =>
            have h5 := HE.out.2.2
            have h6 := HE.out.2.1
            unfold okL at h6
            refine ⟨k + 1, m + (1 + e.size), by omega, by first | rfl | (congr 1; omega), by go_num, rfl, by omega, ?_, ?_⟩
            · show _ = _
              rw [HE.out.1, enc_append, List.length_append, hme.out]
              simp [enc]
              omega
            · show ∀ y ∈ _, _
              rw [HE.out.1]
              intro y hy
              rcases List.mem_append.1 hy with hy | hy
              · exact hall.out y hy
              · rw [List.mem_singleton.1 hy]; exact HE.out.2.1
        · have hxx : x = ([], 2) := by
            rw [← HX.out]
            unfold joinP
            rw [if_neg (by rw [HN.out.1]; simp), if_pos]
            rw [Bool.eq_false_iff]
            intro h
            exact hok ((okLb_iff _).1 (List.all_eq_true.1 h x0 hmem))
          have HXX := Lib.hid hxx
          have hcase : ((e.size : Int) == 0) = true ∨ (((e.size : Int) == 0) = false ∧ (63 : Int) < (e.size : Int)) := by
            unfold okL at hok
            by_cases h0 : e.size = 0
            · left; rw [h0]; rfl
            · right; exact ⟨by rw [beq_eq_false_iff_ne]; omega, by omega⟩
          clear htk hok hes he hx0 hmem hxx
          rcases hcase with q1 | ⟨q1, q2⟩
          all_goals
            go_wp2_with (fail)
            go_ret2
            rw [HXX.out]
            exact ⟨rfl, B1.out⟩
      · obtain rfl : k = ls.length := by omega
        have hme' := hme.out
        have hall' := hall.out
        rw [List.take_length] at hme' hall'
        have hno1 : ¬ (isName n.data.toList = false) := by rw [HN.out.1]; simp
        have hno2 : ¬ (ls.all okLb = false) := by
          rw [Bool.not_eq_false, List.all_eq_true]
          exact fun y hy => (okLb_iff y).2 (hall' y hy)
        have hxx := HX.out
        unfold joinP at hxx
        rw [if_neg hno1, if_neg hno2, HN.out.2.1] at hxx
        have hmI : (m : Int) ≤ 64000255 := by omega
        by_cases hbig : 255 < m
        · have hbI : (255 : Int) < (m : Int) := by omega
          rw [if_pos (by omega)] at hxx
          have HXX := Lib.hid hxx.symm
          clear hme' hall' hno1 hno2 hxx hme hall hm hlt
          go_wp2_with (fail)
          go_ret2
          rw [HXX.out]
          exact ⟨rfl, B1.out⟩
        · have hbI : ¬ (255 : Int) < (m : Int) := by omega
          rw [if_neg (by omega)] at hxx
          have HXX := Lib.hid (And.intro hxx.symm (And.intro hall' (show n.size + (enc ls).length ≤ 255 from by omega)))
          clear hme' hall' hno1 hno2 hxx hme hall hm hlt
          have S0 := Lib.hid (Bd.start wr)
          have B2 := Lib.hid (B1.out.alloc B1.out.size (.cells #[.pointer none, .slice none 0 0] 54))
          obtain ⟨W1, hW1⟩ : ∃ W1, wr = W1 := ⟨_, rfl⟩
          rw [hW1] at S0 B1 B2 ⊢
          clear hW1
          go_wp2_with (fail)
          go_loopg [41] ls.length (fun g v41 wr => ∃ k : Nat, g + k = ls.length ∧ v41 = .int .i64 (k : Int) ∧ Aside (Bd (fun i => i < W1.heap.size) wr W1.heap.size (enc (ls.take k))) ∧ Aside (Below w.heap.size w wr))
          case atStart => exact ⟨0, by omega, rfl, S0.out, B2.out⟩
          case round =>
            obtain ⟨k, hg, rfl, hS, hB⟩ := hrel
            by_cases hlt : k < ls.length
            · obtain ⟨b0, o, rfl, hal, hac⟩ := HT.out (by simp [strs]; omega)
              obtain ⟨x0, hx0⟩ : ∃ x0, ls[k]? = some x0 := ⟨_, List.getElem?_eq_getElem hlt⟩
              obtain ⟨e, he⟩ : ∃ e : ByteArray, (⟨x0.toArray⟩ : ByteArray) = e := ⟨_, rfl⟩
              have hes : e.size = x0.length := by rw [← he]; exact ba_size x0
              have a0 : wr.cell? ⟨b0, o + k, none⟩ = some (.string e) := by rw [hB.out.cell (p := ⟨b0, o + k, none⟩) hal, ← he]; exact hac k _ (strs_at hx0)
              have hltI : (k : Int) < (ls.length : Int) := by omega
              have hok := HXX.out.2.1 x0 (List.mem_of_getElem? hx0)
              unfold okL at hok
              have htk : ls.take (k + 1) = ls.take k ++ [x0] := by
                obtain ⟨hlt', rfl⟩ := List.getElem?_eq_some_iff.1 hx0
                exact List.take_succ_eq_append_getElem hlt'
              have hlen : (enc (ls.take k)).length + (1 + x0.length) ≤ 255 := by
                have h5 := HXX.out.2.2
                have h6 : (enc (ls.take (k + 1))).length ≤ (enc ls).length := pos_le ls (k + 1)
                rw [htk, enc_append, List.length_append] at h6
                simp [enc] at h6
                omega
              have e3 : (e.size : Int) ≤ 63 := by omega
              have hWB := fun V (hV : Bd (fun i => i < W1.heap.size) V W1.heap.size (enc (ls.take k))) => bWriteByte_any (UInt8.ofNat e.size) hV (by omega)
              rw [show ((UInt8.ofNat e.size).toNat : Int) = (e.size : Int) from by rw [UInt8.toNat_ofNat']; omega] at hWB
              have HWB := Lib.hid (hWB wr hS.out)
              have HE := Lib.hid (And.intro htk (And.intro hlen (And.intro hes he)))
              clear htk hok hes he hx0 hac hlen hWB
              go_wp2_with (fail)
              refine HWB.out.mono ?_
              rintro e1 w2 ⟨rfl, h1, h2⟩
              have S2 := Lib.hid h1
              have B3 := Lib.hid (hB.out.trans (h2.below (B := w.heap.size) fun i hi => Nat.lt_of_lt_of_le hi B1.out.size))
              clear h1 h2 a0 HWB
              go_wp2_with (fail)
              refine (bWriteString_any e S2.out (by have := HE.out.2.1; have := HE.out.2.2.1; rw [List.length_append, List.length_singleton]; omega)).mono ?_
              rintro e2 w3 ⟨rfl, h1, h2⟩
              have S3 := Lib.hid h1
              have B4 := Lib.hid (B3.out.trans (h2.below (B := w.heap.size) fun i hi => Nat.lt_of_lt_of_le hi B1.out.size))
              clear h1 h2
              go_wp2_with (fail)
              go_roundg (ls.length - (k + 1))
              case measure => omega
              case rel =>
                refine ⟨k + 1, by omega, by go_num, ?_, B4.out⟩
                show Bd _ _ _ _
                rw [HE.out.1, enc_append]
                have h7 := S3.out
                rw [HE.out.2.2.1, ← HE.out.2.2.2, List.append_assoc] at h7
                simpa [enc] using h7
            · obtain rfl : k = ls.length := by omega
              have hS' := hS.out
              rw [List.take_length] at hS'
              have HS' := Lib.hid hS'
              clear hS' hlt hg
              go_wp2_with (fail)
              refine (bWriteString_any n HS'.out (by have := HXX.out.2.2; omega)).mono ?_
              rintro e2 w3 ⟨rfl, h1, h2⟩
              have B4 := Lib.hid (hB.out.trans (h2.below (B := w.heap.size) fun i hi => Nat.lt_of_lt_of_le hi B1.out.size))
              have S3 := Lib.hid (bString_some h1 (by
                intro h
                have h3 := congrArg List.length h
                rw [List.length_append, HN.out.2.1] at h3
                have h4 := ((isName_iff _).1 HN.out.1).2
                have h5 : n.data.toList ≠ [] := by
                  intro h6
                  rw [h6] at h4
                  simp [labs_nil] at h4
                have h6 : 0 < n.data.toList.length := List.length_pos_iff.2 h5
                rw [HN.out.2.1] at h6
                rw [List.length_nil] at h3
                omega))
              clear h1 h2
              go_wp2_with (fail)
              refine S3.out.mono ?_
              rintro e2 w4 ⟨rfl, h2⟩
              have B5 := Lib.hid (B4.out.trans (h2.below (B := w.heap.size) fun i hi => Nat.lt_of_lt_of_le hi B1.out.size))
              clear h2
              go_wp2_with (fail)
              go_ret2
              rw [HXX.out.1]
              exact ⟨rfl, B5.out⟩
  · rw [hn2] at HCk
    have hr : joinP n.data.toList ls = ([], 2) := if_pos hn1
    rw [hr]
    clear hn1 hn2 hr hszn hn hl
    go_enter Tryd.func13, Tryd.ntmps13
    go_wp2_with (fail)
    refine (HCk.out _).mono ?_
    rintro e w1 ⟨rfl, hb⟩
    have B1 := Lib.hid hb
    clear hb
    go_wp2_with (fail)
    go_ret2
    exact ⟨rfl, B1.out⟩
end Go.Proofs.YtenmhfhnhfhooaaDoor
