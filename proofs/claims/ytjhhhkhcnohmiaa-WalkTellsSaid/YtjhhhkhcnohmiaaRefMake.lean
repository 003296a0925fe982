/- The walks of hardtackref01's Make, Count, Within, Same. -/
import Derived.Test.YtjhhhkhcnohmiaaWalkP
import Derived.Test.YtjhhhkhcnohmiaaTTab
import Derived.Test.YtjhhhkhcnohmiaaRefFold
import Derived.Deep.LoopGhost
import Derived.Outline
namespace Go.Proofs.Ytjhhhkhcnohmiaa
open Go.RowKit Go.Lib

/-- What is left of a slice behind its first i. -/
theorem tail_run {P : Program} {t : TypeId} (ht : P.underlying t = some (.slice (P.elem t))) (hs : ∀ w, (sizeOf (P.elem t)).run P w = .ok 1 w) {w : World} {A : Option Addr} {xs : List Value} (c i : Nat) (h : TTab w A xs) (hi : i ≤ xs.length) (hc : xs.length ≤ c) :
    ∃ A' c', (∀ W : World, (Instr.slice t (.slice A xs.length c) (some (.int .i64 (i : Int))) none none).run P W = .ok (.slice A' (xs.drop i).length c') W) ∧ TTab w A' (xs.drop i) := by
  refine ⟨if c = i then A else A.map (·.add (i * 1)), c - i, fun W => ?_, fun hn => ?_⟩
  · rw [run_slice_l (P := P) W t A xs.length c ht .i64 (i : Int) (by omega) (by omega), hs]
    simp [Result.andThen, sliced]
  · rw [List.length_drop] at hn
    obtain ⟨b, o, hA, hlt, hcc⟩ := h (by omega)
    rw [if_neg (by omega), hA]
    refine ⟨b, o + i, ?_, hlt, fun j u hu => ?_⟩
    · show some (Addr.add ⟨b, o, none⟩ (i * 1)) = _
      unfold Addr.add
      simp
    · rw [List.getElem?_drop] at hu
      rw [Nat.add_assoc]
      exact hcc _ u hu
theorem enc_one (ls : List Bs) (x : Bs) : enc (ls ++ [x]) = enc ls ++ (UInt8.ofNat x.length :: x) := by
  rw [enc_append]
  simp [enc]
theorem ba_app (a b : ByteArray) : (a ++ b).data.toList = a.data.toList ++ b.data.toList := by
  rw [ByteArray.data_append]; simp

set_option maxRecDepth 100000 in
set_option maxHeartbeats 2000000 in
theorem rMake_any (ls : List Bs) (A : Option Addr) (c : Nat) (w : World) (h : TTab w A (strs ls)) (hok : ∀ x ∈ ls, okL x) (hl : ls.length ≤ 1000) :
    Calls Try.prog 67 #[.slice A ls.length c] w fun e w' => e = .returned (.string ⟨(mk ls).toArray⟩) ∧ Below w.heap.size w w' := by
  have HA := Lib.hid h
  have HO := Lib.hid hok
  have hlI : (ls.length : Int) ≤ 1000 := by omega
  clear h hok
  go_enter Try.func67, Try.ntmps67
  go_wp2_with (fail)
  go_loopg [3, 5, 8] ls.length (fun g v3 _ v8 wr => ∃ (k : Nat) (S : ByteArray), v8 = .int .i64 (k : Int) ∧ v3 = .string S ∧ Aside (g + k = ls.length) ∧ Aside (S.data.toList = enc (ls.take k) ∧ S.size ≤ 64 * k) ∧ Aside (Below w.heap.size w wr))
  case atStart => exact ⟨0, ⟨#[]⟩, rfl, rfl, (by show _ + 0 = _; rfl), ⟨rfl, by decide⟩, Below.refl _ _⟩
  case round =>
    obtain ⟨k, S, rfl, rfl, hg, hS, hB⟩ := hrel
    have hS1 : S.size ≤ 64000 := by have := hS.out.2; have := hg.out; omega
    by_cases hlt : k < ls.length
    · obtain ⟨b0, o, rfl, hal, hac⟩ := HA.out (by rw [strs_len]; omega)
      obtain ⟨x, hxk⟩ : ∃ x, ls[k]? = some x := ⟨_, List.getElem?_eq_getElem hlt⟩
      have a0 : wr.cell? ⟨b0, o + k, none⟩ = some (.string ⟨x.toArray⟩) := (hB.out.cell (p := ⟨b0, o + k, none⟩) hal).trans (hac k _ (strs_get hxk))
      have hltI : (k : Int) < (ls.length : Int) := by omega
      have hox := HO.out x (List.mem_of_getElem? hxk)
      obtain ⟨X, hX⟩ : ∃ X : ByteArray, (⟨x.toArray⟩ : ByteArray) = X := ⟨_, rfl⟩
      have hXs : X.size = x.length := by rw [← hX]; simp [ByteArray.size]
      have hXl : X.data.toList = x := by rw [← hX]
      rw [hX] at a0
      have hx1 : (X.size : Int) ≤ 63 := by have := hox.2; omega
      have hx0 : 1 ≤ (X.size : Int) := by have := hox.1; omega
      have hcv : (convert 57 9 (.slice (some ⟨wr.heap.size, 0, none⟩) 1 1)).run Try.prog (wr.alloc (.cells #[.int .u8 (X.size : Int)] 5)) = .ok (.string ⟨#[UInt8.ofNat X.size]⟩) (wr.alloc (.cells #[.int .u8 (X.size : Int)] 5)) := by
        refine run_convert_bytes_back (P := Try.prog) _ 57 9 5 ⟨wr.heap.size, 0, none⟩ 1 [UInt8.ofNat X.size] Try.underlying57 Try.underlying5 Try.underlying9 (fun j hj => ?_)
        have ea : (⟨wr.heap.size, 0, none⟩ : Addr).add j = ⟨wr.heap.size, j, none⟩ := by unfold Addr.add; split <;> simp_all
        rw [ea, (Blk.new wr 5 _).cell j]
        have hj2 : j < 1 := hj
        match j, hj2 with
        | 0, _ =>
          show some (Value.int .u8 (X.size : Int)) = some (.int .u8 ((UInt8.ofNat X.size).toNat : Int))
          rw [UInt8.toNat_ofNat', show X.size % 2 ^ 8 = X.size by omega]
      obtain ⟨H, hH⟩ : ∃ H : ByteArray, (⟨#[UInt8.ofNat X.size]⟩ : ByteArray) = H := ⟨_, rfl⟩
      have hHs : H.size = 1 := by rw [← hH]; rfl
      rw [hH] at hcv
      have hHX : (H ++ X).size = 1 + X.size := by rw [ByteArray.size_append, hHs]
      have hc1 : H.size + X.size ≤ 9223372036854775807 := by omega
      have hc2 : S.size + (H ++ X).size ≤ 9223372036854775807 := by omega
      have HE : Hid ((S ++ (H ++ X)).data.toList = enc (ls.take (k + 1)) ∧ (S ++ (H ++ X)).size ≤ 64 * (k + 1)) := Lib.hid (by
        obtain ⟨q1, q2⟩ := List.getElem?_eq_some_iff.1 hxk
        refine ⟨?_, ?_⟩
        · rw [List.take_succ_eq_append_getElem q1, q2, enc_one, ba_app, ba_app, hS.out.1, hXl, ← hH, hXs]
          rfl
        · rw [ByteArray.size_append, hHX]
          have := hS.out.2
          omega)
      have hBA : Hid (Below w.heap.size w (wr.alloc (.cells #[.int .u8 (X.size : Int)] 5))) := Lib.hid (hB.out.alloc hB.out.size _)
      clear hac hxk hox hX hXs hXl hH hHX hHs
      go_wp2_with (fail)
      go_roundg (ls.length - (k + 1))
      case measure => have := hg.out; omega
      case rel => exact ⟨k + 1, S ++ (H ++ X), by go_num, rfl, (by show _ = _; have := hg.out; omega), HE.out, hBA.out⟩
    · obtain rfl : k = ls.length := by have := hg.out; omega
      have hc : S.size + (⟨#[0]⟩ : ByteArray).size ≤ 9223372036854775807 := by show S.size + 1 ≤ _; omega
      go_wp2_with (fail)
      go_ret
      refine ⟨?_, hB.out⟩
      have h1 := hS.out.1
      rw [List.take_length] at h1
      show Ending.returned (.string (S ++ ⟨#[0]⟩)) = _
      congr 2
      apply ByteArray.ext
      apply Array.toList_inj.1
      show (S ++ (⟨#[0]⟩ : ByteArray)).data.toList = mk ls
      rw [ba_app, h1]
      rfl

theorem rCount_any (s : ByteArray) (hs : s.size ≤ maxLen) (w : World) : Calls Try.prog 63 #[.string s] w fun e w' => e = .returned (.int .i64 ((namL s.data.toList).length : Int)) ∧ Below w.heap.size w w' := by
  have H := Lib.hid (rSplit_any s hs w)
  have hl := namL_length_le s.data.toList
  simp only [ByteArray.size_data, Array.length_toList] at hl
  obtain ⟨q, hq⟩ : ∃ q, (namL s.data.toList).length = q := ⟨_, rfl⟩
  rw [hq]
  cases h1 : isName s.data.toList with
  | true =>
    have hq2 : (labs s.data.toList).1.length = q := by rw [← hq, namL_yes h1]
    have H1 := Lib.hid (And.intro h1 hq2)
    clear h1 hq hq2
    go_enter Try.func63, Try.ntmps63
    go_wp2_with (fail)
    with_reducible refine (H.out).mono ?_
    rintro e w1 ⟨v, rfl, _, h2, hb⟩
    obtain ⟨A, c, rfl, _, _⟩ := (h2 H1.out.1).shape
    rw [H1.out.1, H1.out.2]
    have HB := Lib.hid hb
    clear hb h2
    go_wp2_with (fail)
    go_ret
    exact ⟨rfl, HB.out⟩
  | false =>
    have hq0 : q = 0 := by rw [← hq, namL_no h1]; rfl
    subst hq0
    have H1 := Lib.hid h1
    clear h1 hq
    go_enter Try.func63, Try.ntmps63
    go_wp2_with (fail)
    with_reducible refine (H.out).mono ?_
    rintro e w1 ⟨v, rfl, ⟨A, n, c, rfl⟩, _, hb⟩
    rw [H1.out]
    have HB := Lib.hid hb
    clear hb
    go_wp2_with (fail)
    go_ret
    exact ⟨rfl, HB.out⟩
end Go.Proofs.Ytjhhhkhcnohmiaa
