/- The walks of package rdata's copies, Write. Conditions: none. -/
import Derived.Test.YtgfpnkakglgokaaRdNames
import Derived.Test.YtgfpnkakglgokaaRdCheck
import Derived.Test.YtgfpnkakglgokaaReadPart
import Derived.Test.YtgfpnkakglgokaaPackChain
namespace Go.Proofs.Ytgfpnkakglgokaa
open Go.RowKit Go.Lib

theorem beN_digit : ∀ (n : Nat) (x : Bs), x.length = n → ∀ i c, x[i]? = some c → beN x / 256 ^ (x.length - 1 - i) % 256 = c.toNat := by
  intro n
  induction n with
  | zero =>
    intro x hx i c hc
    have := List.eq_nil_of_length_eq_zero hx
    subst this
    simp at hc
  | succ n ih =>
    intro x hx i c hc
    obtain ⟨y, z, rfl⟩ : ∃ y z, x = y ++ [z] := ⟨x.dropLast, x.getLast (by intro e; subst e; simp at hx), (List.dropLast_concat_getLast _).symm⟩
    have hy : y.length = n := by simpa using hx
    rw [beN_snoc, List.length_append, List.length_singleton]
    by_cases hi : i = y.length
    · subst hi
      rw [List.getElem?_append_right (Nat.le_refl _), Nat.sub_self] at hc
      have : z = c := by simpa using hc
      subst this
      have := z.toNat_lt
      rw [show y.length + 1 - 1 - y.length = 0 by omega, Nat.pow_zero, Nat.div_one]
      omega
    · have hil : i < y.length := by
        have := (List.getElem?_eq_some_iff.1 hc).1
        simp at this; omega
      rw [List.getElem?_append_left hil] at hc
      have h := ih y hy i c hc
      rw [show y.length + 1 - 1 - i = (y.length - 1 - i) + 1 by omega, Nat.pow_succ, Nat.mul_comm (256 ^ _) 256, ← Nat.div_div_eq_div_mul]
      have hz := z.toNat_lt
      rw [show (beN y * 256 + z.toNat) / 256 = beN y by omega]
      exact h
theorem bigB_beN {x : Bs} {k : Nat} (hx : x.length = k) (hk : k ≤ 8) : bigB (beN x) k = x := by
  apply List.ext_getElem?
  intro i
  by_cases hi : i < k
  · rw [bigB_get hi, List.getElem?_eq_getElem (by omega)]
    congr 1
    apply UInt8.toNat_inj.1
    rw [bigI_toNat]
    have := beN_digit k x hx i x[i] (List.getElem?_eq_getElem (by omega))
    rw [show 7 - (8 - k + i) = x.length - 1 - i by omega]
    exact this
  · rw [List.getElem?_eq_none (by rw [bigB_length]; omega), List.getElem?_eq_none (by omega)]

set_option maxRecDepth 100000 in
set_option maxHeartbeats 4000000 in
theorem copies_any {K : Nat → Prop} {w : World} {b : Nat} {lim : Int} {m : Value} {l : Bs} (width many : Nat) (hw : width = 2 ∨ width = 4) (hm : many ≤ 100) (S : ByteArray) (hS : S.size = width * many) (h : Wr K w b lim false m l) (hfit : (l.length + S.size : Int) ≤ lim) (hlim : lim ≤ 140737488355000) :
    Calls Try.prog 66 #[.pointer (some ⟨b, 0, none⟩), .int .i64 (width : Int), .int .i64 (many : Int), .string S] w fun e w' => e = .returned (.tuple #[]) ∧ Wr K w' b lim false m (l ++ S.data.toList) ∧ KeepK K w w' := by
  have hmI : (many : Int) ≤ 100 := by omega
  have HO := Lib.hid (rOpen_any S w)
  have hSl : S.data.toList.length = S.size := by simp
  have HH := Lib.hid (And.intro hw (And.intro hm (And.intro hS (And.intro h (And.intro hfit (And.intro hlim hSl))))))
  clear hw hm hS h hfit hlim hSl
  go_enter Try.func66, Try.ntmps66
  go_wp2_with (fail)
  with_reducible refine HO.out.mono ?_
  rintro e w2 ⟨rfl, hr, hb⟩
  obtain ⟨rb, hrb⟩ : ∃ rb, w.heap.size = rb := ⟨_, rfl⟩
  have hWr : Wr (fun i => K i ∨ i = rb) w2 b lim false m l := by
    obtain ⟨h1, v, h2, h3, h4⟩ := HH.out.2.2.2.1
    refine ⟨fun i hi => ?_, v, h2.below hb h2.lt, h3.below hb (fun g hg => h3.lt g hg), fun g hg => ⟨(h4 g hg).1, fun e => ?_⟩⟩
    · rcases hi with hi | rfl
      · exact ⟨Nat.lt_of_lt_of_le (h1 i hi).1 hb.size, (h1 i hi).2⟩
      · have := hr.lt; have := h2.lt; exact ⟨by omega, by omega⟩
    · rcases e with e | rfl
      · exact (h4 g hg).2 e
      · have := h3.lt _ hg; omega
  have hK2 : KeepK K w w2 := KeepK.of_below hb fun i hi => (HH.out.2.2.2.1.1 i hi).1
  rw [hrb] at hr ⊢
  have H2 := Lib.hid (And.intro hr (And.intro hWr hK2))
  have HRB := Lib.hid hrb
  clear hr hb hWr hK2 HO hrb
  go_wp2_with (fail)
  go_loopg [12] many (fun gg v12 wr => ∃ k : Nat, v12 = .int .i64 (k : Int) ∧ Aside (gg + k = many) ∧ Aside (Rd wr rb S (width * k) false ∧ Wr (fun i => K i ∨ i = rb) wr b lim false m (l ++ S.data.toList.take (width * k)) ∧ KeepK K w wr))
  case atStart => exact ⟨0, rfl, rfl, H2.out.1, by rw [Nat.mul_zero, List.take_zero, List.append_nil]; exact H2.out.2.1, H2.out.2.2⟩
  case round =>
    obtain ⟨k, rfl, hg, hA⟩ := hrel
    by_cases hk : k < many
    · have hkI : (k : Int) < (many : Int) := by omega
      have hwk : width * k + width ≤ S.size := by
        rw [HH.out.2.2.1]
        calc width * k + width = width * (k + 1) := by rw [Nat.mul_add, Nat.mul_one]
          _ ≤ width * many := Nat.mul_le_mul_left _ hk
      have hs47 : S.size ≤ maxLen := by have := HH.out.2.2.2.2.1; have := HH.out.2.2.2.2.2.1; unfold maxLen; omega
      have HNU := Lib.hid (rNum_yes hA.out.1 width (by rcases HH.out.1 with h | h <;> omega) hs47 hwk)
      obtain ⟨x, hx⟩ : ∃ x, (S.extract (width * k) (width * k + width)).data.toList = x := ⟨_, rfl⟩
      rw [hx] at HNU
      have hxd : x = (S.data.toList.drop (width * k)).take width := by rw [← hx, take_byte S _ _ hwk]
      have hxl : x.length = width := by rw [hxd, List.length_take, List.length_drop]; have := HH.out.2.2.2.2.2.2; omega
      obtain ⟨N, hN⟩ : ∃ N, beN x = N := ⟨_, rfl⟩
      have hNb : bigB N width = x := by rw [← hN]; exact bigB_beN hxl (by rcases HH.out.1 with h | h <;> omega)
      have hNl : N ≤ 18446744073709551615 := by
        have := beN_lt x
        rw [hN, hxl] at this
        have h8 : 256 ^ width ≤ 256 ^ 8 := Nat.pow_le_pow_right (by decide) (by rcases HH.out.1 with h | h <;> omega)
        have : (256 : Nat) ^ 8 = 18446744073709551616 := by decide
        omega
      rw [hN] at HNU
      have hnx : S.data.toList.take (width * k) ++ x = S.data.toList.take (width * (k + 1)) := by
        rw [hxd, Nat.mul_add, Nat.mul_one, List.take_add]
      have HR := Lib.hid (And.intro hNb (And.intro hNl (And.intro hnx (And.intro hk hwk))))
      clear hwk hs47 hx hxd hxl hN hNb hNl hnx hk
      go_wp2_with (fail)
      with_reducible refine HNU.out.mono ?_
      rintro e w3 ⟨rfl, hr3, hbt⟩
      have hW3 : Wr (fun i => K i ∨ i = rb) w3 b lim false m (l ++ S.data.toList.take (width * k)) := Wr.keepK hA.out.2.1 hbt ⟨hA.out.2.1.lt, (hA.out.2.1.1 rb (.inr rfl)).2.symm⟩ (fun g hg hl => ⟨hl, fun e => hg (.inr e)⟩)
      have HPN := Lib.hid (num_fits width (by rcases HH.out.1 with h | h <;> omega) N HR.out.2.1 hW3 (by
        rw [List.length_append, List.length_take]
        have := HH.out.2.2.2.2.1; have := HR.out.2.2.2.2; have := HH.out.2.2.2.2.2.2; omega) HH.out.2.2.2.2.2.1)
      have hK3 : KeepK K w w3 := hA.out.2.2.trans (hbt.mono fun i hi => ⟨(hA.out.2.1.1 i (.inl hi)).1, fun e => by
        have := (HH.out.2.2.2.1.1 i hi).1
        have := HRB.out
        omega⟩)
      have H3 := Lib.hid (And.intro hr3 hK3)
      clear hr3 hbt hW3 hK3 HNU
      go_wp2_with (fail)
      with_reducible refine HPN.out.mono ?_
      rintro e w4 ⟨rfl, hw4, hk4⟩
      rw [HR.out.1, List.append_assoc, HR.out.2.2.1] at hw4
      have H4 := Lib.hid (And.intro (Blk.keepK H3.out.1 hk4 (.inr rfl) : Rd w4 rb S (width * k + width) false) (And.intro hw4 (H3.out.2.trans (hk4.mono fun i hi => .inl hi))))
      clear hw4 hk4 HPN
      go_wp2_with (fail)
      go_roundg (many - (k + 1))
      case measure => have := hg.out; have := HR.out.2.2.2.1; omega
      case rel => exact ⟨k + 1, by go_num, (by show _ = _; have := hg.out; have := HR.out.2.2.2.1; omega), (by rw [Nat.mul_add, Nat.mul_one]; exact H4.out.1), H4.out.2.1, H4.out.2.2⟩
    · have hkI : ¬ (k : Int) < (many : Int) := by omega
      have hkm : k = many := by have := hg.out; omega
      have hfin : Wr K wr b lim false m (l ++ S.data.toList) := by
        have := hA.out.2.1
        rw [hkm, ← HH.out.2.2.1, ← HH.out.2.2.2.2.2.2, List.take_length] at this
        exact this.mono fun i hi => .inl hi
      have HF := Lib.hid hfin
      clear hk hkm hfin
      go_wp2_with (fail)
      refine bodyPost_end (results_none rfl _ _ _) rfl ?_
      exact ⟨rfl, HF.out, hA.out.2.2⟩
end Go.Proofs.Ytgfpnkakglgokaa
