/- Sets put into a cache and asked for: what stands. Plain. Conditions: none. A list of records among the arguments, opened. Conditions: none. The walk of hardtacktop.TopKept. Conditions: none. -/
import Derived.Test.YtfipacfompihkaaOfM
import Derived.Test.YtfipacfompihkaaCaP
import Derived.Test.YtfipacfompihkaaCaG
import Derived.Test.YtfipacfompihkaaRR
import Derived.Test.YtfipacfompihkaaOf
import Derived.Test.YtfipacfompihkaaSays
import Derived.Test.YtfipacfompihkaaTopBegin
import Derived.Deep.DeepCutAuto
namespace Go.Proofs.Ytfipacfompihkaa
open Go.RowKit Go.Lib

theorem stab_keepB {w w' : World} {A : Option Addr} {xs : List ByteArray} {K : Nat → Prop} (h : STab w A xs) (hk : KeepK K w w') (hA : ∀ a, A = some a → K a.block) : STab w' A xs := fun hn => by
  obtain ⟨b, off, hA2, hlt, hc⟩ := h hn
  exact ⟨b, off, hA2, Nat.lt_of_lt_of_le hlt hk.size, fun j u hu => (hk.cell (p := ⟨b, off + j, none⟩) (show K b from hA _ hA2)).trans (hc j u hu)⟩
/-- What is kept of a set. -/
def kEn (now : Int) (s : SRec) : Option En := if 0 < s.l ∧ s.t ≠ 0 then some ⟨s.n, s.t, s.l, s.xs, 4, false, false, now + min s.l 604800⟩ else none
/-- What stands when some sets are put. -/
structure KV (now : Int) (S : List SRec) (V : Bs → Int → Option En) : Prop where
  rk : ∀ s t e, V s t = some e → e.rk = 4 ∧ t ≠ 0
  at_ : ∀ r ∈ S, V (foldB r.n.data.toList) r.t = kEn now r
  no : ∀ s t, (∀ r ∈ S, ¬ (s = foldB r.n.data.toList ∧ t = r.t)) → V s t = none
theorem KV.nil_ (now : Int) : KV now [] (fun _ _ => none) := ⟨fun _ _ _ h => (by cases h), fun _ h => (by cases h), fun _ _ _ => rfl⟩
theorem KV.same {now : Int} {S : List SRec} {V : Bs → Int → Option En} (h : KV now S V) (s : SRec) (hs : ¬ (0 < s.l ∧ s.t ≠ 0)) (hd : ∀ r ∈ S, ¬ (foldB r.n.data.toList = foldB s.n.data.toList ∧ r.t = s.t)) : KV now (S ++ [s]) V := by
  refine ⟨h.rk, fun r hr => ?_, fun s' t' hn => h.no s' t' fun r hr => hn r (List.mem_append_left _ hr)⟩
  rcases List.mem_append.1 hr with hr | hr
  · exact h.at_ r hr
  · rw [List.mem_singleton.1 hr]
    unfold kEn
    rw [if_neg hs]
    exact h.no _ _ fun r hr e => hd r hr ⟨e.1.symm, e.2.symm⟩
theorem KV.put {now : Int} {S : List SRec} {V : Bs → Int → Option En} (h : KV now S V) (s : SRec) (hs : 0 < s.l ∧ s.t ≠ 0) (hd : ∀ r ∈ S, ¬ (foldB r.n.data.toList = foldB s.n.data.toList ∧ r.t = s.t)) :
    KV now (S ++ [s]) (withE V (foldB s.n.data.toList) s.t ⟨s.n, s.t, s.l, s.xs, 4, false, false, now + min s.l 604800⟩) := by
  refine ⟨fun s' t' e he => ?_, fun r hr => ?_, fun s' t' hn => ?_⟩
  · unfold withE at he
    split at he
    · rename_i hc
      injection he with he
      subst he
      exact ⟨rfl, by rw [hc.2]; exact hs.2⟩
    · exact h.rk s' t' e he
  · rcases List.mem_append.1 hr with hr | hr
    · unfold withE
      rw [if_neg (hd r hr)]
      exact h.at_ r hr
    · rw [List.mem_singleton.1 hr]
      unfold withE kEn
      rw [if_pos ⟨rfl, rfl⟩, if_pos hs]
  · unfold withE
    rw [if_neg (hn s (by simp))]
    exact h.no s' t' fun r hr => hn r (List.mem_append_left _ hr)
/-- What a Put does. -/
theorem putK {w : World} {g mb k : Nat} {L : Nat → Prop} {V : Bs → Int → Option En} {S : List SRec} {s : SRec} {now : Int} {e : Ending} {w' : World} (hV : KV now S V) (hg : s.good) (hd : ∀ r ∈ S, ¬ (foldB r.n.data.toList = foldB s.n.data.toList ∧ r.t = s.t)) (hnow : 0 ≤ now ∧ now ≤ 1099511627776)
    (h : PutP w g mb 200 k L V s.n s.t s.l s.xs 4 now e w') :
    e = .returned (.bool (decide (0 < s.l) && decide (s.t ≠ 0))) ∧ ∃ L' V', CaV w' g mb 200 (k + 1) L' V' ∧ KV now (S ++ [s]) V' ∧ (∀ i, L' i → L i ∨ w.heap.size ≤ i) ∧ KeepK (fun i => i < w.heap.size ∧ ¬ L i ∧ i ≠ mb) w w' := by
  rcases h with ⟨_, ht, h1, ⟨L', h2, h3⟩, h4⟩ | ⟨hno, h1, h2, h3⟩
  · have hko : keepsOut (V (foldB s.n.data.toList) s.t) 4 now = false := by
      cases hv : V (foldB s.n.data.toList) s.t with
      | none => rfl
      | some y => unfold keepsOut; simp [(hV.rk _ _ _ hv).1]
    have hl := hg.l1
    by_cases h0 : 0 < s.l
    · have hh : holds V (putE s.n s.t s.l s.xs 4) (min s.l 604800) now = true := by
        unfold holds putE
        dsimp only
        rw [hko, decide_eq_false (show ¬ min s.l 604800 = 0 by omega), decide_eq_false (show ¬ now < 0 by omega), decide_eq_false (show ¬ 4611686018427387904 < now by omega)]
        rfl
      rw [hh] at h1 h2
      refine ⟨by rw [h1]; simp [h0, ht], L', _, h2, hV.put s ⟨h0, ht⟩ hd, h3, h4⟩
    · have hh : holds V (putE s.n s.t s.l s.xs 4) (min s.l 604800) now = false := by
        unfold holds
        rw [decide_eq_true (show min s.l 604800 = 0 by omega)]
        rfl
      rw [hh] at h1 h2
      refine ⟨by rw [h1]; simp [h0], L', _, h2, hV.same s (fun hc => h0 hc.1) hd, h3, h4⟩
  · have ht : s.t = 0 := by
      rcases hno with h | h
      · rw [hg.ok] at h; cases h
      · exact h
    exact ⟨by rw [h1]; simp [ht], L, V, h2.more (by omega), hV.same s (fun hc => hc.2 ht) hd, fun i hi => .inl hi, h3⟩
/-- What Get finds. -/
theorem gets_no {now un : Int} {S : List SRec} {V : Bs → Int → Option En} {s : SRec} (hV : KV now S V) (hs : s ∈ S) (hg : s.good) (hu : now ≤ un) (h : ¬ (s.t ≠ 0 ∧ un < now + min s.l 604800)) : gets V s.n s.t 4 un = none := by
  have h0 : ∀ b, V b 0 = none := fun b => by
    cases hv : V b 0 with
    | none => rfl
    | some y => exact absurd rfl (hV.rk _ _ _ hv).2
  have hl := hg.l1
  rw [gets_then, h0]
  · rfl
  · rw [hV.at_ s hs]
    unfold kEn
    by_cases hc : 0 < s.l ∧ s.t ≠ 0
    · rw [if_pos hc]
      unfold liveE
      dsimp only
      rw [if_neg (fun hx => h ⟨hc.2, hx.1⟩)]
    · rw [if_neg hc]; rfl
theorem gets_yes {now un : Int} {S : List SRec} {V : Bs → Int → Option En} {s : SRec} (hV : KV now S V) (hs : s ∈ S) (hg : s.good) (hu : now ≤ un) (h : s.t ≠ 0 ∧ un < now + min s.l 604800) :
    gets V s.n s.t 4 un = some ⟨s.n, s.t, s.l, s.xs, 4, false, false, now + min s.l 604800⟩ := by
  have hl := hg.l1
  apply gets_first
  rw [hV.at_ s hs]
  unfold kEn
  rw [if_pos ⟨by omega, h.1⟩]
  unfold liveE
  dsimp only
  rw [if_pos ⟨h.2, by omega⟩]
theorem setOk_less {n : ByteArray} {t l l' : Int} {xs : List ByteArray} (h : setOk n t l xs = true) (hl : l' ≤ 2147483647) : setOk n t l' xs = true := by
  unfold setOk at *
  simp only [Bool.and_eq_true, decide_eq_true_eq] at h ⊢
  exact ⟨h.1, hl, h.2.2⟩
end Go.Proofs.Ytfipacfompihkaa

namespace Go.Proofs.Ytfipacfompihkaa
open Go.Joins Go.ChangeShapes Go.WideShapes Go.ChangeAt Go.RowKit Go.Deep

set_option maxRecDepth 100000 in
theorem open_rrs {H : Type} {enc : TypeId × Value → H} {W : World} {base : Nat} {r : Reach} {b0 : Nat} {spare : Nat → Bool} {held : Bool} {v : Value} {d : DataW H} {p : List MemPlace}
    (hv : Value.okWide Try.prog W r b0 41 v) (h : DataW.Trod enc Try.prog W base spare held 41 v d p) :
    ∃ (A : Option Addr) (xs : List RRec) (c : Nat), v = .slice A xs.length c ∧ RTab W A xs ∧ (∀ e ∈ xs, e.ok) ∧ xs.length ≤ c ∧ c ≤ maxLen := by
  obtain ⟨a0, len0, cap0, rfl⟩ := okWide_slice Try.underlying41 hv
  obtain ⟨fuel, hf⟩ := h
  exact trod_rrs hf
end Go.Proofs.Ytfipacfompihkaa

namespace Go.Proofs.Ytfipacfompihkaa
open Go.RowKit Go.Lib

/-- What stands while the sets are put. -/
structure K1 (lo B Z : Nat) (w5 : World) (g mb k : Nat) (L : Nat → Prop) (V : Bs → Int → Option En) (now : Int) (S : List SRec) (wr : World) : Prop where
  ca : CaV wr g mb 200 k L V
  kv : KV now S V
  ll : ∀ i, L i → lo ≤ i ∧ (i < B ∨ Z ≤ i)
  kk : KeepK (fun i => i < lo ∨ (B ≤ i ∧ i < Z)) w5 wr
theorem K1.low {lo B Z : Nat} {w5 : World} {g mb k : Nat} {L : Nat → Prop} {V : Bs → Int → Option En} {now : Int} {S : List SRec} {wr wb : World} (h : K1 lo B Z w5 g mb k L V now S wr) (hb : Below wr.heap.size wr wb) (hz : lo ≤ Z ∧ Z ≤ wr.heap.size) : K1 lo B Z w5 g mb k L V now S wb :=
  ⟨h.ca.low hb, h.kv, h.ll, h.kk.trans (KeepK.of_below hb fun i hi => by omega)⟩
theorem K1.put {lo B Z : Nat} {w5 : World} {g mb k : Nat} {L L' : Nat → Prop} {V V' : Bs → Int → Option En} {now : Int} {S S' : List SRec} {wb w6 : World} (h : K1 lo B Z w5 g mb k L V now S wb) (hz : lo ≤ Z ∧ Z ≤ wb.heap.size) (hmb : lo ≤ mb ∧ mb < B)
    (h1 : CaV w6 g mb 200 (k + 1) L' V') (h2 : KV now S' V') (h3 : ∀ i, L' i → L i ∨ wb.heap.size ≤ i) (h4 : KeepK (fun i => i < wb.heap.size ∧ ¬ L i ∧ i ≠ mb) wb w6) : K1 lo B Z w5 g mb (k + 1) L' V' now S' w6 :=
  ⟨h1, h2, fun i hi => by
    rcases h3 i hi with h9 | h9
    · exact h.ll i h9
    · exact ⟨by omega, .inr (by omega)⟩, h.kk.trans (h4.mono fun i hi => ⟨by omega, fun h9 => by have := h.ll i h9; omega, by omega⟩)⟩
theorem K1.get {lo B Z : Nat} {w5 : World} {g mb k : Nat} {L : Nat → Prop} {V : Bs → Int → Option En} {now : Int} {S : List SRec} {wb w6 : World} (h : K1 lo B Z w5 g mb k L V now S wb) (hz : lo ≤ Z ∧ Z ≤ wb.heap.size)
    (h1 : CaV w6 g mb 200 k L V) (h4 : KeepK (fun i => i < wb.heap.size ∧ ¬ L i) wb w6) : K1 lo B Z w5 g mb k L V now S w6 :=
  ⟨h1, h.kv, h.ll, h.kk.trans (h4.mono fun i hi => ⟨by omega, fun h9 => by have := h.ll i h9; omega⟩)⟩
set_option maxRecDepth 100000 in
set_option maxHeartbeats 16000000 in
theorem topKept_law (w : World) (A : Option Addr) (xs : List RRec) (c : Nat) (now later : Int) (hT : RTab w A xs) (hx : ∀ r ∈ xs, r.ok) (hxc : xs.length ≤ c) (hcm : c ≤ maxLen) (hnow : -9223372036854775808 ≤ now ∧ now ≤ 9223372036854775807) (hlat : 0 ≤ later ∧ later ≤ 255) :
    Calls Try.prog 5 #[.slice A xs.length c, .int .i64 now, .int .u8 later] w fun e w' => e = .returned (.bool true) ∧ Below w.heap.size w w' := by
  have HA := Lib.hid (And.intro hT (And.intro hx (And.intro hxc hcm)))
  have HL := Lib.hid hlat
  clear hT hx hxc hcm
  go_enter Try.func5, Try.ntmps5
  go_wp2_with (fail)
  with_reducible refine (begins_any _).mono ?_
  rintro e w2 ⟨rfl, hb2⟩
  have HSM := Lib.hid (small13_any xs A c w2 (HA.out.1.below hb2) (fun r hr => (HA.out.2.1 r hr).1) (Nat.le_trans HA.out.2.2.1 HA.out.2.2.2))
  have B2 := Lib.hid hb2
  clear hb2
  go_wp2_with (fail)
  with_reducible refine HSM.out.mono ?_
  rintro e w3 ⟨hsm, hb⟩
  have B3 := Lib.hid (B2.out.trans (hb.mono B2.out.size))
  clear hb B2 HSM
  rcases hsm with rfl | ⟨rfl, hl100, hsmall⟩
  · go_wp2_with (fail)
    go_ret
    exact ⟨rfl, B3.out⟩
  have HS := Lib.hid (And.intro hl100 hsmall)
  clear hl100 hsmall
  by_cases hn0 : now < 0
  · go_wp2_with (fail)
    go_ret
    exact ⟨rfl, B3.out⟩
  by_cases hn1 : 1099511627776 < now
  · go_wp2_with (fail)
    go_ret
    exact ⟨rfl, B3.out⟩
  have HN := Lib.hid (show (0 ≤ now ∧ now ≤ 1099511627776) by omega)
  have HNEW := Lib.hid (show Calls Try.prog 15 #[.int .i64 200] w3 (NewP 200 w3) from newCa_any 200 (by decide) w3)
  go_wp2_with (fail)
  with_reducible refine HNEW.out.mono ?_
  rintro e w4 ⟨g, mb, L0, rfl, hca, hb4, hg, hmb, hLL⟩
  have HOF := Lib.hid (of_any xs A c w4 (HA.out.1.below (B3.out.trans (hb4.mono B3.out.size))) HS.out.1 (fun r hr => ⟨HS.out.2 r hr, HA.out.2.1 r hr⟩))
  have H4 := Lib.hid (And.intro hca (And.intro hb4 (And.intro hg (And.intro hmb hLL))))
  clear hca hb4 hg hmb hLL HNEW
  go_wp2_with (fail)
  with_reducible refine HOF.out.mono ?_
  rintro e w5 ⟨S, As, cs, rfl, hsl, hown, hdat, hpw, hS100, hb5⟩
  have hSI : (S.length : Int) ≤ 100 := by omega
  have H5 := Lib.hid (And.intro hsl (And.intro hown (And.intro hdat (And.intro hpw (And.intro hS100 hb5)))))
  clear hsl hown hdat hpw hS100 hb5 HOF
  go_wp2_with (fail)
  go_loopg [46] S.length (fun gg v46 wr => ∃ k : Nat, v46 = .int .i64 (k : Int) ∧ Aside (gg + k = S.length) ∧ Aside (∃ L V, K1 w3.heap.size w4.heap.size w5.heap.size w5 g mb k L V now (S.take k) wr))
  case atStart => exact ⟨0, rfl, rfl, L0, _, H4.out.1.low H5.out.2.2.2.2.2, KV.nil_ now, fun i hi => ⟨H4.out.2.2.2.2 i hi, .inl (H4.out.1.lt.2.2 i hi)⟩, KeepK.refl _ _⟩
  case round =>
    obtain ⟨k, rfl, hgg, hK⟩ := hrel
    by_cases hlt : k < S.length
    · have hltI : (k : Int) < (S.length : Int) := by omega
      obtain ⟨L, V, hK⟩ := hK.out
      obtain ⟨s, hs⟩ : ∃ s, S[k]? = some s := ⟨_, List.getElem?_eq_getElem hlt⟩
      have hsm := List.mem_of_getElem? hs
      obtain ⟨hsl, hown, hdat, hpw, hS100, hb5⟩ := H5.out
      obtain ⟨hgd, hst, hsb⟩ := hdat s hsm
      obtain ⟨ab, aoff, rfl, hab, hcl⟩ := GTab.of_sl SRec.four hsl (by omega)
      have habB : w4.heap.size ≤ ab := hown ab rfl
      have hz5 := hK.kk.size
      have hz34 : w3.heap.size ≤ w4.heap.size := H4.out.2.1.size
      have hz45 : w4.heap.size ≤ w5.heap.size := hb5.size
      have hcc : ∀ o u, w5.cell? ⟨ab, o, none⟩ = some u → wr.cell? ⟨ab, o, none⟩ = some u := fun o u hu => (hK.kk.cell (p := ⟨ab, o, none⟩) (.inr ⟨habB, hab⟩)).trans hu
      have c0 : wr.cell? ⟨ab, aoff + k * 4, none⟩ = some (.string s.n) := hcc _ _ (hcl k s hs 0 _ rfl)
      have c1 : wr.cell? ⟨ab, aoff + k * 4 + 1, none⟩ = some (.int .u16 s.t) := hcc _ _ (hcl k s hs 1 _ rfl)
      have c2 : wr.cell? ⟨ab, aoff + k * 4 + 2, none⟩ = some (.int .u32 s.l) := hcc _ _ (hcl k s hs 2 _ rfl)
      have c3 : wr.cell? ⟨ab, aoff + k * 4 + 3, none⟩ = some (.slice s.A s.xs.length s.c) := hcc _ _ (hcl k s hs 3 _ rfl)
      have hbb : Below wr.heap.size wr (wr.alloc (.cells #[.string s.n, .int .u16 s.t, .int .u32 s.l, .slice s.A s.xs.length s.c] 49)) := (Below.refl _ _).alloc (Nat.le_refl _) _
      have hKb := hK.low hbb ⟨by omega, hz5⟩
      have hmbB : w3.heap.size ≤ mb ∧ mb < w4.heap.size := ⟨H4.out.2.2.2.1, H4.out.1.lt.2.1⟩
      have hLw := hK.ca.lt
      have h64 : s.xs.length ≤ 64 := by
        have h9 := hgd.ok
        unfold setOk at h9
        simp only [Bool.and_eq_true, decide_eq_true_eq] at h9
        exact h9.2.2.2.1
      have hput := put_any hKb.ca (by omega) (by omega) s.n s.t s.l s.A s.xs s.c 4 now (by have := hgd.n1; unfold maxLen; omega) hgd.t1 hgd.l1 (stab_keepB hst hKb.kk fun a ha => .inr ⟨(hsb a ha).1, (hsb a ha).2⟩)
        (fun a ha _ => ⟨fun h9 => by have h8 := hK.ll _ h9; have h7 := hsb a ha; omega, fun e => by have h7 := hsb a ha; omega⟩) (fun x hx => by have := hgd.x1 x hx; unfold maxLen; omega) (by omega) (by omega) (by have := HN.out; omega)
      have hd : ∀ r ∈ S.take k, ¬ (foldB r.n.data.toList = foldB s.n.data.toList ∧ r.t = s.t) := fun r hr => by
        have h9 : S = S.take k ++ S.drop k := (List.take_append_drop k S).symm
        rw [h9] at hpw
        exact (List.pairwise_append.1 hpw).2.2 r hr s (by rw [List.mem_iff_getElem?]; exact ⟨0, by rw [List.getElem?_drop]; simpa using hs⟩)
      have HPUT := Lib.hid hput
      dsimp only [setV] at HPUT
      have HK := Lib.hid (And.intro hKb (And.intro hd (And.intro hgd (And.intro hs (And.intro hmbB (And.intro (show w3.heap.size ≤ w5.heap.size ∧ w5.heap.size ≤ wr.heap.size from ⟨by omega, hz5⟩) hLw))))))
      clear hput hd hgd hst hsb hcl hab habB hcc hbb hKb hmbB hz34 hz45 hsl hown hdat hpw hS100 hb5 hs hsm hz5 hLw hK h64
      go_wp2_with (fail)
      with_reducible refine HPUT.out.mono ?_
      rintro e w6 hp6
      obtain ⟨rfl, L', V', hca6, hkv6, hll6, hk6⟩ := putK HK.out.1.kv HK.out.2.2.1 HK.out.2.1 HN.out hp6
      have hbx : Blk w6 wr.heap.size 49 #[.string s.n, .int .u16 s.t, .int .u32 s.l, .slice s.A s.xs.length s.c] :=
        (Blk.new wr 49 #[.string s.n, .int .u16 s.t, .int .u32 s.l, .slice s.A s.xs.length s.c]).keepK hk6 ⟨by simp, fun h9 => by have := HK.out.2.2.2.2.2.2.2.2 _ h9; omega, fun e => by have := HK.out.2.2.2.2.2.2.2.1; omega⟩
      have x1 := hbx.cell 1
      have x2 := hbx.cell 2
      have HK6 := Lib.hid (HK.out.1.put ⟨HK.out.2.2.2.2.2.1.1, by have := HK.out.2.2.2.2.2.1.2; simp; omega⟩ HK.out.2.2.2.2.1 hca6 hkv6 hll6 hk6)
      clear hca6 hkv6 hll6 hk6 hbx HPUT hp6 c0 c1 c2 c3
      have hfin : ∃ L V, K1 w3.heap.size w4.heap.size w5.heap.size w5 g mb (k + 1) L V now (S.take (k + 1)) w6 := by
        have h8 : S.take (k + 1) = S.take k ++ [s] := by rw [List.take_add_one, HK.out.2.2.2.1]; rfl
        rw [h8]
        exact ⟨L', V', HK6.out⟩
      have HF := Lib.hid hfin
      clear hfin
      by_cases h0 : 0 < s.l <;> by_cases ht : s.t = 0
      all_goals
        have e1 : decide (0 < s.l) = decide (0 < s.l) := rfl
        have e2 : (s.t == 0) = decide (s.t = 0) := by rw [Bool.eq_iff_iff]; simp
        have e3 : (s.t != 0) = !decide (s.t = 0) := by rw [bne, e2]
        have e4 : decide (s.t ≠ 0) = !decide (s.t = 0) := by simp
        first | rw [decide_eq_true ht] at e2 e3 e4 | rw [decide_eq_false ht] at e2 e3 e4
        first | rw [decide_eq_true h0] | rw [decide_eq_false h0]
        rw [e4]
        clear e1
        go_wp2_with (fail)
        go_roundg (S.length - (k + 1))
        case measure => have := hgg.out; have := hltI; omega
        case rel => exact ⟨k + 1, by go_num, (show S.length - (k + 1) + (k + 1) = S.length by have := hltI; omega), HF.out⟩
    · have hltI : ¬ (k : Int) < (S.length : Int) := by omega
      have hke : k = S.length := by have := hgg.out; omega
      subst hke
      obtain ⟨L, V, hK⟩ := hK.out
      rw [List.take_length] at hK
      have HK := Lib.hid hK
      clear hK
      go_wp2_with (fail)
      go_loopg [71] S.length (fun gg v71 wr => ∃ k : Nat, v71 = .int .i64 (k : Int) ∧ Aside (gg + k = S.length) ∧ Aside (K1 w3.heap.size w4.heap.size w5.heap.size w5 g mb S.length L V now S wr))
      case atStart => exact ⟨0, rfl, rfl, HK.out⟩
      case round =>
        clear HK
        obtain ⟨k, rfl, hgg, hK⟩ := hrel
        by_cases hlt : k < S.length
        · have hltI : (k : Int) < (S.length : Int) := by omega
          have hK := hK.out
          obtain ⟨s, hs⟩ : ∃ s, S[k]? = some s := ⟨_, List.getElem?_eq_getElem hlt⟩
          have hsm := List.mem_of_getElem? hs
          obtain ⟨hsl, hown, hdat, hpw, hS100, hb5⟩ := H5.out
          obtain ⟨hgd, hst, hsb⟩ := hdat s hsm
          obtain ⟨ab, aoff, rfl, hab, hcl⟩ := GTab.of_sl SRec.four hsl (by omega)
          have habB : w4.heap.size ≤ ab := hown ab rfl
          have hz5 := hK.kk.size
          have hz34 : w3.heap.size ≤ w4.heap.size := H4.out.2.1.size
          have hz45 : w4.heap.size ≤ w5.heap.size := hb5.size
          have hcc : ∀ o u, w5.cell? ⟨ab, o, none⟩ = some u → wr.cell? ⟨ab, o, none⟩ = some u := fun o u hu => (hK.kk.cell (p := ⟨ab, o, none⟩) (.inr ⟨habB, hab⟩)).trans hu
          have c0 : wr.cell? ⟨ab, aoff + k * 4, none⟩ = some (.string s.n) := hcc _ _ (hcl k s hs 0 _ rfl)
          have c1 : wr.cell? ⟨ab, aoff + k * 4 + 1, none⟩ = some (.int .u16 s.t) := hcc _ _ (hcl k s hs 1 _ rfl)
          have c2 : wr.cell? ⟨ab, aoff + k * 4 + 2, none⟩ = some (.int .u32 s.l) := hcc _ _ (hcl k s hs 2 _ rfl)
          have c3 : wr.cell? ⟨ab, aoff + k * 4 + 3, none⟩ = some (.slice s.A s.xs.length s.c) := hcc _ _ (hcl k s hs 3 _ rfl)
          have hbb : Below wr.heap.size wr (wr.alloc (.cells #[.string s.n, .int .u16 s.t, .int .u32 s.l, .slice s.A s.xs.length s.c] 49)) := (Below.refl _ _).alloc (Nat.le_refl _) _
          have hKb := hK.low hbb ⟨by omega, hz5⟩
          have hLw := hK.ca.lt
          have hget := get_any hKb.ca s.n (by have := hgd.n1; unfold maxLen; omega) s.t 4 (now + later) hgd.t1 (by have := HN.out; omega)
          have HGET := Lib.hid hget
          obtain ⟨ml, hml⟩ : ∃ ml, min s.l 604800 = ml := ⟨_, rfl⟩
          have hmb : 0 ≤ ml ∧ ml ≤ 604800 := by have := hgd.l1; omega
          have hsl1 := hgd.l1
          have hnb := HN.out
          have HK := Lib.hid (And.intro hKb (And.intro hgd (And.intro hsm (And.intro (show w3.heap.size ≤ w5.heap.size ∧ w5.heap.size ≤ wr.heap.size from ⟨by omega, hz5⟩) (And.intro hLw (And.intro hst hsb))))))
          have HML := Lib.hid hml
          clear hget hgd hst hsb hcl hab habB hcc hbb hKb hz34 hz45 hsl hown hdat hpw hS100 hb5 hs hsm hz5 hLw hK
          go_wp2_with (fail)
          with_reducible refine HGET.out.mono ?_
          rintro e w6 ⟨hgot, hca6, hk6⟩
          obtain ⟨hKb, hgd, hsm, hzz, hLw, hst, hsb⟩ := HK.out
          have hzb : (wr.alloc (.cells #[.string s.n, .int .u16 s.t, .int .u32 s.l, .slice s.A s.xs.length s.c] 49)).heap.size = wr.heap.size + 1 := by simp
          have hbx : Blk w6 wr.heap.size 49 #[.string s.n, .int .u16 s.t, .int .u32 s.l, .slice s.A s.xs.length s.c] :=
            (Blk.new wr 49 #[.string s.n, .int .u16 s.t, .int .u32 s.l, .slice s.A s.xs.length s.c]).keepK hk6 ⟨by omega, fun h9 => by have := hLw.2.2 _ h9; omega⟩
          have hz6 := hk6.size
          have hK6 := hKb.get ⟨hzz.1, by omega⟩ hca6 hk6
          have hsd : STab w6 s.A s.xs := stab_keepB hst hK6.kk fun a ha => .inr ⟨(hsb a ha).1, (hsb a ha).2⟩
          have H6 := Lib.hid (And.intro hK6 (And.intro hbx (And.intro hsd (And.intro (show w5.heap.size ≤ w6.heap.size by omega) (And.intro hzz.1 (And.intro hgd hbx.lt))))))
          have x0 := hbx.cell 0
          have x1 := hbx.cell 1
          have x2 := hbx.cell 2
          have x3 := hbx.cell 3
          by_cases hlv : s.t ≠ 0 ∧ now + later < now + ml
          · have hgy := gets_yes hKb.kv hsm hgd (by omega : now ≤ now + later) (by rw [HML.out]; exact hlv)
            rw [hgy] at hgot
            obtain ⟨Af, cf, rfl, hslf, hownf⟩ := hgot
            rw [HML.out]
            dsimp only [foundV]
            obtain ⟨lf, hlf⟩ : ∃ lf, min (now + ml - (now + later)) 604800 = lf := ⟨_, rfl⟩
            rw [hlf]
            have hlf2 : now + ml - (now + later) = lf := by omega
            have hlfb : 0 ≤ lf ∧ lf ≤ 604800 := by omega
            have e3 : (s.t != 0) = true := by simp [hlv.1]
            have e2 : (s.t == 0) = false := by simp [hlv.1]
            have e4 : decide (s.t = 0) = false := by simp [hlv.1]
            have hlt3 : now + later < now + ml := hlv.2
            have HY := Lib.hid (And.intro hslf (And.intro hownf hlf2))
            clear hslf hownf hgy hgd hKb hsm hzz hLw hst hsb hzb hbx hz6 hK6 hsd hca6 hk6 hlv hlf c0 c1 c2 c3 HGET x0 x1 x2 x3
            go_upto_region 22 with (fail)
            obtain ⟨W7, hW7⟩ : ∃ W7, w6.alloc (.cells #[.string s.n, .int .u16 s.t, .int .u32 lf, .slice Af s.xs.length cf, .int .u8 4, .bool false, .bool false] 62) = W7 := ⟨_, rfl⟩
            have hb7 : Below w6.heap.size w6 W7 := by rw [← hW7]; exact (Below.refl _ _).alloc (Nat.le_refl _) _
            have hf7 : Blk W7 w6.heap.size 62 #[.string s.n, .int .u16 s.t, .int .u32 lf, .slice Af s.xs.length cf, .int .u8 4, .bool false, .bool false] := by rw [← hW7]; exact Blk.new _ _ _
            rw [hW7]
            clear hW7
            have hbx7 := H6.out.2.1.below hb7 H6.out.2.1.lt
            have x0 := hbx7.cell 0; have x1 := hbx7.cell 1; have x2 := hbx7.cell 2; have x3 := hbx7.cell 3
            have f0 := hf7.cell 0; have f1 := hf7.cell 1; have f2 := hf7.cell 2; have f3 := hf7.cell 3
            have hsf7 : STab W7 Af s.xs := by
              have h9 := HY.out.1.below hb7 HY.out.1.lt
              have e : (s.xs.map Value.string).length = s.xs.length := by simp
              rw [← e] at h9
              exact ttab_of_sl h9
            have hK7 := H6.out.1.low hb7 ⟨H6.out.2.2.2.2.1, H6.out.2.2.2.1⟩
            have hgd := H6.out.2.2.2.2.2.1
            have hsay := says_any s.n s.t lf s.l Af s.A s.xs cf s.c W7 (by have := hgd.n1; unfold maxLen; omega) hsf7 (H6.out.2.2.1.below hb7) (fun x hx => by have := hgd.x1 x hx; omega) (setOk_less hgd.ok (by omega)) hgd.ok
            have HSAY := Lib.hid hsay
            dsimp only [setV] at HSAY
            have H7 := Lib.hid (And.intro hK7 (And.intro hf7 (And.intro hb7.size HY.out.2.2)))
            clear hsay hK7 hgd hsf7 hbx7 hf7 hb7
            go_wp2_with (fail)
            with_reducible refine HSAY.out.mono ?_
            rintro e w8 ⟨rfl, hb8⟩
            have hf8 := H7.out.2.1.below hb8 H7.out.2.1.lt
            have hK8 := H7.out.1.low hb8 ⟨H6.out.2.2.2.2.1, Nat.le_trans H6.out.2.2.2.1 H7.out.2.2.1⟩
            have H8 := Lib.hid hK8
            clear f0 f1 f2 f3 x0 x1 x2 x3
            have f2 := hf8.cell 2
            have hlf2 := H7.out.2.2.2
            clear hf8 hK8 hb8 HSAY
            go_wp2_with (fail)
            go_roundg (S.length - (k + 1))
            case measure => have := hgg.out; have := hltI; omega
            case rel => exact ⟨k + 1, by go_num, (show S.length - (k + 1) + (k + 1) = S.length by have := hltI; omega), H8.out⟩
          · have hgn := gets_no hKb.kv hsm hgd (by omega : now ≤ now + later) (by rw [HML.out]; exact hlv)
            rw [hgn] at hgot
            obtain rfl : e = .returned (.tuple #[noFound, .bool false]) := hgot
            dsimp only [noFound]
            clear hgn hgd hKb hsm hzz hLw hst hsb hzb hbx hz6 hK6 hsd hca6 hk6 c0 c1 c2 c3 HGET
            by_cases ht : s.t = 0
            · have e3 : (s.t != 0) = false := by simp [ht]
              have e2 : (s.t == 0) = true := by simp [ht]
              have e4 : decide (s.t = 0) = true := by simp [ht]
              clear hlv ht x0 x1 x2 x3
              go_upto_region 22 with (fail)
              obtain ⟨W7, hW7⟩ : ∃ W7, w6.alloc (.cells #[.string ⟨#[]⟩, .int .u16 0, .int .u32 0, .slice none 0 0, .int .u8 0, .bool false, .bool false] 62) = W7 := ⟨_, rfl⟩
              have hb7 : Below w6.heap.size w6 W7 := by rw [← hW7]; exact (Below.refl _ _).alloc (Nat.le_refl _) _
              rw [hW7]
              clear hW7
              have hbx7 := H6.out.2.1.below hb7 H6.out.2.1.lt
              have x0 := hbx7.cell 0; have x1 := hbx7.cell 1; have x2 := hbx7.cell 2; have x3 := hbx7.cell 3
              have H7 := Lib.hid (H6.out.1.low hb7 ⟨H6.out.2.2.2.2.1, H6.out.2.2.2.1⟩)
              clear hb7 hbx7
              go_wp2_with (fail)
              go_roundg (S.length - (k + 1))
              case measure => have := hgg.out; have := hltI; omega
              case rel => exact ⟨k + 1, by go_num, (show S.length - (k + 1) + (k + 1) = S.length by have := hltI; omega), H7.out⟩
            · have e3 : (s.t != 0) = true := by simp [ht]
              have e2 : (s.t == 0) = false := by simp [ht]
              have e4 : decide (s.t = 0) = false := by simp [ht]
              have hnl : ¬ now + later < now + ml := fun h => hlv ⟨ht, h⟩
              clear hlv ht x0 x1 x2 x3
              go_upto_region 22 with (fail)
              obtain ⟨W7, hW7⟩ : ∃ W7, w6.alloc (.cells #[.string ⟨#[]⟩, .int .u16 0, .int .u32 0, .slice none 0 0, .int .u8 0, .bool false, .bool false] 62) = W7 := ⟨_, rfl⟩
              have hb7 : Below w6.heap.size w6 W7 := by rw [← hW7]; exact (Below.refl _ _).alloc (Nat.le_refl _) _
              rw [hW7]
              clear hW7
              have hbx7 := H6.out.2.1.below hb7 H6.out.2.1.lt
              have x0 := hbx7.cell 0; have x1 := hbx7.cell 1; have x2 := hbx7.cell 2; have x3 := hbx7.cell 3
              have H7 := Lib.hid (H6.out.1.low hb7 ⟨H6.out.2.2.2.2.1, H6.out.2.2.2.1⟩)
              clear hb7 hbx7
              go_wp2_with (fail)
              go_roundg (S.length - (k + 1))
              case measure => have := hgg.out; have := hltI; omega
              case rel => exact ⟨k + 1, by go_num, (show S.length - (k + 1) + (k + 1) = S.length by have := hltI; omega), H7.out⟩
        · have hltI : ¬ (k : Int) < (S.length : Int) := by omega
          go_wp2_with (fail)
          go_ret
          have hB5 : Below w.heap.size w w5 := (B3.out.trans (H4.out.2.1.mono B3.out.size)).trans (H5.out.2.2.2.2.2.mono (Nat.le_trans B3.out.size H4.out.2.1.size))
          exact ⟨rfl, ((KeepK.of_below (K := fun i => i < w.heap.size) hB5 fun i hi => hi).trans (hK.out.kk.mono fun i hi => .inl (Nat.lt_of_lt_of_le hi B3.out.size))).below fun i hi => hi⟩
end Go.Proofs.Ytfipacfompihkaa
