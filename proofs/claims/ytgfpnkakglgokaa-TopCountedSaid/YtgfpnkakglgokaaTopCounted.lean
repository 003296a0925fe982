/- A limit (api.Limit) among the arguments, opened. Conditions: none. The law TopCounted: its walk. Conditions: none. -/
import Derived.Test.YtgfpnkakglgokaaRR
import Derived.Test.YtgfpnkakglgokaaRtHit
import Derived.Test.YtgfpnkakglgokaaMsgWr
import Derived.Test.YtgfpnkakglgokaaTopBegin
import Derived.Test.YtgfpnkakglgokaaTTab
import Derived.Test.YtgfpnkakglgokaaQLow
namespace Go.Proofs.Ytgfpnkakglgokaa
open Go.Joins Go.ChangeShapes Go.WideShapes Go.RowKit Go.Deep
theorem limit_cells : Try.prog.cellsOf 23 = 5 := by kernel_rfl
set_option maxRecDepth 100000 in
theorem open_limit {H : Type} {enc : TypeId × Value → H} {W : World} {base b0 : Nat} {r : Reach} {spare : Nat → Bool} {held : Bool} {v : Value} {d : DataW H} {p : List MemPlace}
    (hv : Value.okWide Try.prog W r b0 23 v) (h : DataW.Trod enc Try.prog W base spare held 23 v d p) :
    ∃ l : Lim, v = l.val := by
  obtain ⟨cs, rfl, hcs, hall⟩ := open_fields' Try.underlying23 (by kernel_rfl) limit_cells hv h
  obtain ⟨c0, c1, c2, c3, c4, rfl⟩ := array5r hcs
  obtain ⟨v0, y0, m0, e0, h0⟩ := hall 0 _ rfl
  obtain ⟨v1, y1, m1, e1, h1⟩ := hall 1 _ rfl
  obtain ⟨v2, y2, m2, e2, h2⟩ := hall 2 _ rfl
  obtain ⟨v3, y3, m3, e3, h3⟩ := hall 3 _ rfl
  obtain ⟨v4, y4, m4, e4, h4⟩ := hall 4 _ rfl
  simp at e0 e1 e2 e3 e4
  subst e0 e1 e2 e3 e4
  obtain ⟨n0, q0, _, _⟩ := DataW.trod_int Try.underlying3 h0
  obtain ⟨n1, q1, _, _⟩ := DataW.trod_int Try.underlying2 h1
  obtain ⟨n2, q2, _, _⟩ := DataW.trod_int Try.underlying3 h2
  obtain ⟨n3, q3, _, _⟩ := DataW.trod_int Try.underlying3 h3
  obtain ⟨n4, q4, _, _⟩ := DataW.trod_int Try.underlying3 h4
  simp at q0 q1 q2 q3 q4
  subst q0 q1 q2 q3 q4
  exact ⟨⟨n0, n1, n2, n3, n4⟩, rfl⟩
end Go.Proofs.Ytgfpnkakglgokaa

namespace Go.Proofs.Ytgfpnkakglgokaa
open Go.RowKit Go.Lib

/-- The rate, of which one prefix at most is known: so many hits, so many over. -/
def RtI (B T : Nat) (l : Lim) (a now : Int) (g mb : Nat) (h o : Int) (V : World) : Prop :=
  (h = 0 ∧ o = 0 ∧ R0 V l g mb) ∨ ∃ nb, B ≤ nb ∧ nb < T ∧ R1 V l g mb nb (prefixI a l.bits) (now / l.window) h o
theorem RtI.below {B T : Nat} {l : Lim} {a now : Int} {g mb : Nat} {h o : Int} {V V' : World} (hR : RtI B T l a now g mb h o V) (hb : Below V.heap.size V V') : RtI B T l a now g mb h o V' := by
  rcases hR with ⟨h1, h2, h3⟩ | ⟨nb, h1, ht, h2⟩
  · exact .inl ⟨h1, h2, h3.below hb⟩
  · exact .inr ⟨nb, h1, ht, h2.below hb⟩
theorem RtI.re {B T : Nat} {l : Lim} {a now : Int} {g mb : Nat} {h o : Int} {V : World} (hR : RtI B T l a now g mb h o V) : RtI B V.heap.size l a now g mb h o V := by
  rcases hR with ⟨h1, h2, h3⟩ | ⟨nb, h1, ht, h2⟩
  · exact .inl ⟨h1, h2, h3⟩
  · exact .inr ⟨nb, h1, Blk.lt h2.no, h2⟩
theorem RtI.lt {B T : Nat} {l : Lim} {a now : Int} {g mb : Nat} {h o : Int} {V : World} (hR : RtI B T l a now g mb h o V) : g < V.heap.size ∧ mb < V.heap.size := by
  rcases hR with ⟨h1, h2, h3⟩ | ⟨nb, h1, ht, h2⟩
  · obtain ⟨F, m1, _⟩ := h3.mp; exact ⟨h3.bx.lt, m1.lt⟩
  · obtain ⟨F, m1, _⟩ := h2.mp; exact ⟨h2.bx.lt, m1.lt⟩
def HitQ (B T : Nat) (l : Lim) (a now : Int) (g mb : Nat) (h o : Int) (w : World) (e : Ending) (w' : World) : Prop :=
  ∃ v : Int, e = .returned (.int .u8 v) ∧ (v = 0 ↔ h + 1 ≤ l.many) ∧ RtI B w'.heap.size l a now g mb (h + 1) (if h + 1 ≤ l.many then o else o + 1) w' ∧ KeepK (fun i => i < w.heap.size ∧ (i < B ∨ T ≤ i)) w w'
theorem hit_any {B T : Nat} {l : Lim} {a now : Int} {g mb : Nat} {h o : Int} {w : World} (hR : RtI B T l a now g mb h o w) (hl : l.Ok) (hnow : 0 ≤ now ∧ now ≤ 9223372036854775807) (hh : 0 ≤ h ∧ h ≤ 1000) (ho : 0 ≤ o ∧ o ≤ 1000) (hg : B ≤ g ∧ B ≤ mb ∧ g < T ∧ mb < T ∧ B ≤ T ∧ T ≤ w.heap.size) :
    Calls Try.prog 7 #[.pointer (some ⟨g, 0, none⟩), .int .u32 a, .int .i64 now] w (HitQ B T l a now g mb h o w) := by
  rcases hR with ⟨rfl, rfl, h3⟩ | ⟨nb, h1, ht, h2⟩
  · refine (hit0_any h3 hl a now hnow).mono ?_
    rintro e w' ⟨nb, ⟨v, rfl, hv, hr, hk⟩, hn⟩
    exact ⟨v, rfl, hv, .inr ⟨nb, by omega, Blk.lt hr.no, hr⟩, hk.mono fun i hi => ⟨hi.1, by omega, by omega, by omega⟩⟩
  · refine (hit1_any h2 rfl hh ho hl hnow).mono ?_
    rintro e w' ⟨v, rfl, hv, hr, hk⟩
    exact ⟨v, rfl, hv, .inr ⟨nb, h1, Blk.lt hr.no, hr⟩, hk.mono fun i hi => ⟨hi.1, by omega, by omega, by omega⟩⟩
theorem count_any {B T : Nat} {l : Lim} {a now : Int} {g mb : Nat} {h o : Int} {w : World} (hR : RtI B T l a now g mb h o w) (hl : l.Ok) (hnow : 0 ≤ now ∧ now ≤ 9223372036854775807) :
    Calls Try.prog 10 #[.pointer (some ⟨g, 0, none⟩), .int .u32 a, .int .i64 now] w fun e w' => e = .returned (.tuple #[.int .i64 h, .int .i64 o]) ∧ Below w.heap.size w w' := by
  rcases hR with ⟨rfl, rfl, h3⟩ | ⟨nb, h1, _, h2⟩
  · exact count0_any h3 hl hnow
  · exact count1_any h2 rfl hl hnow
/-- While texts are gone through. -/
structure CtS (w : World) (lb : Nat) (l : Lim) (a now : Int) (g mb k : Nat) (y h o : Int) (V : World) : Prop where
  bl : Below w.heap.size w V
  lm : Blk V lb 23 #[.int .i64 l.many, .int .i64 l.window, .int .i64 l.slip, .int .i64 l.bits, .int .i64 l.room]
  rt : RtI (w.heap.size + 1) V.heap.size l a now g mb h o V
  sum : y + o = h
  yes : 0 ≤ y ∧ y ≤ l.many
  ov : 0 ≤ o
  hk : h ≤ k
  o1 : w.heap.size = lb
  o2 : w.heap.size + 1 ≤ g ∧ w.heap.size + 1 ≤ mb ∧ w.heap.size + 1 ≤ V.heap.size
theorem CtS.below {w : World} {lb : Nat} {l : Lim} {a now : Int} {g mb k : Nat} {y h o : Int} {V V' : World} (hS : CtS w lb l a now g mb k y h o V) (hb : Below V.heap.size V V') : CtS w lb l a now g mb k y h o V' :=
  ⟨hS.bl.trans (hb.mono hS.bl.size), hS.lm.below hb hS.lm.lt, (hS.rt.below hb).re, hS.sum, hS.yes, hS.ov, hS.hk, hS.o1, by have := hS.o2; have := hb.size; omega⟩
theorem CtS.next {w : World} {lb : Nat} {l : Lim} {a now : Int} {g mb k : Nat} {y h o : Int} {V : World} (hS : CtS w lb l a now g mb k y h o V) : CtS w lb l a now g mb (k + 1) y h o V :=
  ⟨hS.bl, hS.lm, hS.rt, hS.sum, hS.yes, hS.ov, by have := hS.hk; omega, hS.o1, hS.o2⟩

set_option maxRecDepth 100000 in
set_option maxHeartbeats 4000000 in
theorem topCounted_law (w : World) (l : Lim) (A : Option Addr) (xs : List ByteArray) (c : Nat) (a now : Int) (hT : TTab w A (xs.map Value.string)) (hx : ∀ x ∈ xs, x.size ≤ maxLen) (hc : xs.length ≤ c) (hm : c ≤ maxLen) (_ha : 0 ≤ a ∧ a ≤ 4294967295) (hnwb : -9223372036854775808 ≤ now ∧ now ≤ 9223372036854775807) :
    Calls Try.prog 3 #[l.val, .slice A xs.length c, .int .u32 a, .int .i64 now] w fun e w' => e = .returned (.bool true) ∧ Below w.heap.size w w' := by
  have hnw := hnwb.2
  have HB := Lib.hid (fun W => begins_any W)
  have HT := Lib.hid (And.intro hT hx)
  have HNW := Lib.hid (fun W => rateNew_any l W)
  unfold maxLen at hm
  have hlI : (xs.length : Int) ≤ 9223372036854775807 := by omega
  have hb0 : Below w.heap.size w (w.alloc (.cells #[.int .i64 l.many, .int .i64 l.window, .int .i64 l.slip, .int .i64 l.bits, .int .i64 l.room] 23)) := (Below.refl _ _).alloc (Nat.le_refl _) _
  have hl0 : Blk (w.alloc (.cells #[.int .i64 l.many, .int .i64 l.window, .int .i64 l.slip, .int .i64 l.bits, .int .i64 l.room] 23)) w.heap.size 23 #[.int .i64 l.many, .int .i64 l.window, .int .i64 l.slip, .int .i64 l.bits, .int .i64 l.room] := Blk.new _ _ _
  have H0 := Lib.hid (And.intro hb0 hl0)
  clear hb0 hl0 hT hx
  dsimp only [Lim.val] at HNW ⊢
  go_enter Try.func3, Try.ntmps3
  go_wp2_with (fail)
  with_reducible refine (HB.out _).mono ?_
  rintro e w1 ⟨rfl, hb1⟩
  have hb01 := H0.out.1.trans (hb1.mono H0.out.1.size)
  have hl1 := H0.out.2.below hb1 H0.out.2.lt
  have c0 := hl1.cell 0
  have c1 := hl1.cell 1
  have c2 := hl1.cell 2
  have c3 := hl1.cell 3
  have c4 := hl1.cell 4
  have H1 := Lib.hid (And.intro hb01 hl1)
  clear hb01 hl1 hb1 H0 HB
  go_wp2_with (fail)
  with_reducible refine (HNW.out _).mono ?_
  rintro e w2 ⟨hb2, hd⟩
  have hb02 := H1.out.1.trans (hb2.mono H1.out.1.size)
  have hl2 := H1.out.2.below hb2 H1.out.2.lt
  have hz1 := H1.out.2.lt
  have H2 := Lib.hid (And.intro hb02 hl2)
  clear hb02 hb2 c0 c1 c2 c3 c4 HNW
  rcases hd with ⟨hok, g, mb, rfl, hr0, hg, hmb⟩ | rfl
  case inr =>
    clear hl2 H1
    go_wp2_with (fail)
    go_ret
    exact ⟨rfl, H2.out.1⟩
  by_cases h40 : 40 < xs.length
  case pos =>
    have h40I : (40 : Int) < (xs.length : Int) := by omega
    clear h40 hl2 hr0 hok H1
    go_wp2_with (fail)
    go_ret
    exact ⟨rfl, H2.out.1⟩
  have h40I : ¬ (40 : Int) < (xs.length : Int) := by omega
  by_cases hn0 : now < 0
  case pos =>
    clear h40 hl2 hr0 hok H1
    go_wp2_with (fail)
    go_ret
    exact ⟨rfl, H2.out.1⟩
  have hS0 : CtS w w.heap.size l a now g mb 0 0 0 0 w2 := ⟨H2.out.1, H2.out.2, .inl ⟨rfl, rfl, hr0⟩, rfl, ⟨Int.le_refl _, hok.many.1⟩, Int.le_refl _, Int.le_refl _, rfl, by have := hl2.lt; omega⟩
  have HS0 := Lib.hid hS0
  have HOK := Lib.hid hok
  have h40' : xs.length ≤ 40 := by omega
  have hn1 : 0 ≤ now := by omega
  clear h40 hl2 hr0 hok H1 hS0 hg hmb hn0 H2
  go_wp2_with (fail)
  go_loopg [11, 13, 14, 15, 16, 17, 50, 51, 52, 53, 54, 55, 56, 57, 58, 59, 60, 61, 62, 63, 64, 65, 66, 67, 68, 69, 70, 71, 72, 73, 74, 75, 76, 77, 78, 79, 80, 81, 82, 83, 84, 85, 86, 87, 88, 89, 90, 91, 92, 93, 94, 95, 96, 97] (xs.length + 1) (fun gg v11 _ _ _ _ _ v50 _ _ _ _ _ _ _ _ _ _ _ _ _ _ _ _ _ _ _ _ _ _ _ _ _ _ _ _ _ _ _ _ _ _ _ _ _ _ _ _ _ _ _ _ _ _ _ wr => ∃ (k : Nat) (y h o : Int), v50 = .int .i64 (k : Int) ∧ v11 = .int .i64 y ∧ gg + k = xs.length + 1 ∧ k ≤ xs.length ∧ Aside (CtS w w.heap.size l a now g mb k y h o wr))
  case atStart => exact ⟨0, 0, 0, 0, rfl, rfl, rfl, Nat.zero_le _, HS0.out⟩
  case round =>
    obtain ⟨k, y, h, o, rfl, rfl, hgg, hk, hS⟩ := hrel
    by_cases hlt : k < xs.length
    case neg =>
      have HC := Lib.hid (count_any hS.out.rt HOK.out ⟨hn1, hnw⟩)
      have HS := Lib.hid hS.out
      have hltI : ¬ (k : Int) < (xs.length : Int) := by omega
      have hy1 := hS.out.yes.1
      have hy2 := hS.out.yes.2
      have hsum := hS.out.sum
      have hov := hS.out.ov
      have hhk := hS.out.hk
      clear hS hlt
      go_wp2_with (fail)
      refine HC.out.mono ?_
      rintro e w4 ⟨rfl, hb4⟩
      have hl4 := HS.out.lm.below hb4 HS.out.lm.lt
      have c0 : w4.cell? ⟨w.heap.size, 0, none⟩ = some (.int .i64 l.many) := hl4.cell 0
      have H4 := Lib.hid (HS.out.bl.trans (hb4.mono HS.out.bl.size))
      have yw : IntKind.i64.wrap (y + o) = h := by rw [hsum]; exact IntWalk.i64_in _ (by omega)
      clear hl4 hb4 HC
      go_wp2_with (fail)
      go_ret
      exact ⟨ret_b (by simp), H4.out⟩
    obtain ⟨x, hxk⟩ : ∃ x, xs[k]? = some x := ⟨_, List.getElem?_eq_getElem hlt⟩
    have hltI : (k : Int) < (xs.length : Int) := by omega
    obtain ⟨b, off, rfl, hbl, hcx⟩ := TTab.at HT.out.1 (j := k) (u := .string x) (by rw [List.getElem?_map, hxk]; rfl)
    have hcx' := (hS.out.bl.cell (p := ⟨b, off + k, none⟩) hbl).trans hcx
    have hxm : x.size ≤ maxLen := HT.out.2 x (List.mem_of_getElem? hxk)
    unfold maxLen at hxm
    have hxI : (x.size : Int) ≤ 9223372036854775807 := by omega
    by_cases hbig : 8192 < x.size
    case pos =>
      have hbI : (8192 : Int) < (x.size : Int) := by omega
      have HS := Lib.hid hS.out.bl
      clear hS hbig hxk hlt hcx
      go_wp2_with (fail)
      go_ret
      exact ⟨rfl, HS.out⟩
    have hbI : ¬ (8192 : Int) < (x.size : Int) := by omega
    have HLK := Lib.hid (reqLook_any x (by omega) wr)
    have HS := Lib.hid hS.out
    clear hS hbig hxk hlt hcx
    go_wp2_with (fail)
    refine HLK.out.mono ?_
    rintro e w4 ⟨hb4, m, th, sz, hi, ve, fl, B1, n1, c1, cl, sv, code, rfl, _, hyes⟩
    unfold reqV
    by_cases hcd : code = -1
    case neg =>
      have hcI : (code == -1) = false := by rw [beq_eq_false_iff_ne]; exact hcd
      have hcJ : (code != -1) = true := by rw [bne_iff_ne]; exact hcd
      have HS4 := Lib.hid ((HS.out.below hb4).below ((Below.refl _ _).alloc (Nat.le_refl _) (.cells #[.int .u16 m.id, .int .u16 m.bi, .slice m.qA m.q.length m.qc, .slice m.sA m.s.length m.sc, .slice m.hA m.h.length m.hc, .slice m.eA m.e.length m.ec, .bool th, .int .u16 sz, .int .u8 hi, .int .u8 ve, .int .u16 fl, .slice B1 n1 c1, .string cl, .string sv, .int .i64 code] 40))).next
      clear hb4 hyes hcd HLK HS
      go_wp2_with (fail)
      go_roundg (xs.length + 1 - (k + 1))
      case measure => omega
      case rel => exact ⟨k + 1, y, h, o, by go_num, rfl, by omega, by omega, HS4.out⟩
    subst hcd
    obtain ⟨hsl, hown, hmo, hqr, h12, ve', bad, q, hcy⟩ := hyes rfl
    have hS5 := (HS.out.below hb4).below ((Below.refl _ _).alloc (Nat.le_refl _) (.cells #[.int .u16 m.id, .int .u16 m.bi, .slice m.qA m.q.length m.qc, .slice m.sA m.s.length m.sc, .slice m.hA m.h.length m.hc, .slice m.eA m.e.length m.ec, .bool th, .int .u16 sz, .int .u8 hi, .int .u8 ve, .int .u16 fl, .slice B1 n1 c1, .string cl, .string sv, .int .i64 (-1)] 40))
    have hxb5 : Blk (w4.alloc (.cells #[.int .u16 m.id, .int .u16 m.bi, .slice m.qA m.q.length m.qc, .slice m.sA m.s.length m.sc, .slice m.hA m.h.length m.hc, .slice m.eA m.e.length m.ec, .bool th, .int .u16 sz, .int .u8 hi, .int .u8 ve, .int .u16 fl, .slice B1 n1 c1, .string cl, .string sv, .int .i64 (-1)] 40)) w4.heap.size 40 #[.int .u16 m.id, .int .u16 m.bi, .slice m.qA m.q.length m.qc, .slice m.sA m.s.length m.sc, .slice m.hA m.h.length m.hc, .slice m.eA m.e.length m.ec, .bool th, .int .u16 sz, .int .u8 hi, .int .u8 ve, .int .u16 fl, .slice B1 n1 c1, .string cl, .string sv, .int .i64 (-1)] := Blk.new _ _ _
    have hq5 : QTabl (w4.alloc (.cells #[.int .u16 m.id, .int .u16 m.bi, .slice m.qA m.q.length m.qc, .slice m.sA m.s.length m.sc, .slice m.hA m.h.length m.hc, .slice m.eA m.e.length m.ec, .bool th, .int .u16 sz, .int .u8 hi, .int .u8 ve, .int .u16 fl, .slice B1 n1 c1, .string cl, .string sv, .int .i64 (-1)] 40)) m.qA m.q := GTab.of_sl QRec.three (c := m.qc) (hsl.alloc _)
    have hh1 := HS.out.hk
    have hh2 : 0 ≤ h := by have := HS.out.sum; have := HS.out.yes.1; have := HS.out.ov; omega
    have hh3 : o ≤ h := by have := HS.out.sum; have := HS.out.yes.1; omega
    have hbr5 : Below wr.heap.size wr (w4.alloc (.cells #[.int .u16 m.id, .int .u16 m.bi, .slice m.qA m.q.length m.qc, .slice m.sA m.s.length m.sc, .slice m.hA m.h.length m.hc, .slice m.eA m.e.length m.ec, .bool th, .int .u16 sz, .int .u8 hi, .int .u8 ve, .int .u16 fl, .slice B1 n1 c1, .string cl, .string sv, .int .i64 (-1)] 40)) := hb4.trans (((Below.refl _ _).alloc (Nat.le_refl _) _).mono hb4.size)
    have ho2 := HS.out.o2
    have hrl := HS.out.rt.lt
    have hsz5 := hbr5.size
    have hz4 := hb4.size
    have HYS := Lib.hid (show 0 ≤ y ∧ y ≤ h ∧ h ≤ 1000 from ⟨HS.out.yes.1, by have := HS.out.sum; have := HS.out.ov; omega, by omega⟩)
    have HHT := Lib.hid (hit_any (T := wr.heap.size) (HS.out.rt.below hbr5) HOK.out ⟨hn1, hnw⟩ ⟨hh2, by omega⟩ ⟨HS.out.ov, by omega⟩ ⟨by omega, by omega, hrl.1, hrl.2, by omega, hsz5⟩)
    have H5 := Lib.hid (And.intro hS5 (And.intro hxb5 hq5))
    have HX := Lib.hid (And.intro hmo (And.intro hqr (And.intro h12 hcy)))
    have HOW := Lib.hid hown
    have HSL := Lib.hid (hsl.alloc (.cells #[.int .u16 m.id, .int .u16 m.bi, .slice m.qA m.q.length m.qc, .slice m.sA m.s.length m.sc, .slice m.hA m.h.length m.hc, .slice m.eA m.e.length m.ec, .bool th, .int .u16 sz, .int .u8 hi, .int .u8 ve, .int .u16 fl, .slice B1 n1 c1, .string cl, .string sv, .int .i64 (-1)] 40))
    clear hb4 hyes HLK hsl hown hmo hqr h12 hcy hS5 hxb5 hq5 HS
    go_wp2_with (fail)
    refine HHT.out.mono ?_
    rintro e w6 ⟨v, rfl, hv, hrt, hk6⟩
    have hsz6 := hk6.size
    have hxb6 := H5.out.2.1.keepK hk6 ⟨H5.out.2.1.lt, .inr hz4⟩
    have hS6 : CtS w w.heap.size l a now g mb (k + 1) (if h + 1 ≤ l.many then y + 1 else y) (h + 1) (if h + 1 ≤ l.many then o else o + 1) w6 := by
      have hS5 := H5.out.1
      refine ⟨hS5.bl.trans (hk6.below fun i hi => ⟨by omega, .inl (by omega)⟩), hS5.lm.keepK hk6 ⟨hS5.lm.lt, .inl (by omega)⟩, hrt, ?_, ?_, ?_, by have := hS5.hk; omega, rfl, by omega⟩
      · have := hS5.sum
        split <;> omega
      · have := hS5.sum
        have := hS5.yes
        have := hS5.ov
        split <;> omega
      · have := hS5.ov
        split <;> omega
    have hq6 : Sl w6 3 (.slice m.qA m.q.length m.qc) m.q.length (flatV QRec.vs m.q) := HSL.out.keepK hk6 fun g' hg' => ⟨HSL.out.lt g' hg', .inr (Nat.le_of_lt (HOW.out g' hg'))⟩
    have H6 := Lib.hid (And.intro hS6 (And.intro hxb6 hq6))
    clear hrt hk6 hS6 hq6 HHT
    obtain ⟨hmo, hqr, h12, hcy⟩ := HX.out
    obtain ⟨pp, hpp⟩ := hmo.ask
    rw [hcy.q] at hpp
    have hst := hpp.one
    obtain ⟨hqn, hqt, hqc⟩ := askStep_ok hst
    obtain ⟨qn, qt, qc⟩ := q
    dsimp only at hqn hqt hqc
    obtain ⟨tn, rfl⟩ : ∃ tn : Nat, qt = (tn : Int) := ⟨qt.toNat, by have := hqt.1; omega⟩
    obtain ⟨cn, rfl⟩ : ∃ cn : Nat, qc = (cn : Int) := ⟨qc.toNat, by have := hqc.1; omega⟩
    have hid := headN_le x.data.toList 0
    have hbi := headN_le x.data.toList 1
    have hmid := hmo.id
    have hmbi := hmo.bi
    have hop := hcy.op
    have hrd := hcy.rd
    rw [hmbi] at hop hrd
    generalize headN x.data.toList 0 = idN at hid hmid
    generalize headN x.data.toList 1 = biN at hbi hmbi hop hrd hqr
    obtain ⟨hwy, hwl, hws⟩ := wire_yes (id := idN) (bi := biN) hqn (by have := hqt.2; omega) (by have := hqc.2; omega) hid hbi hqr hop hrd hcy.cls hcy.t0 hcy.t1 hcy.t2
    have HST := Lib.hid (strip_any m th sz hi ve fl B1 n1 c1 cl sv (-1) w6 (GTab.of_sl QRec.three (c := m.qc) H6.out.2.2) hmo.lq.1)
    have HWR := Lib.hid (fun (A' : Option Addr) (c' : Nat) (W : World) (hq' : QTabl W A' [⟨qn, tn, cn⟩]) (hc' : 1 ≤ c' ∧ c' ≤ maxLen) => msgWr_any idN biN A' ⟨qn, tn, cn⟩ c' W hq' hqn hc' hid hbi hqt hqc)
    have HL2 := Lib.hid (fun W => reqLook_any ⟨(wireB idN biN ⟨qn, tn, cn⟩).toArray⟩ (by show (wireB idN biN ⟨qn, tn, cn⟩).toArray.size ≤ 100000; simp; omega) W)
    have HWY := Lib.hid (And.intro hwy hws)
    have HQQ := Lib.hid (And.intro hcy.q (And.intro hmid hmbi))
    clear hmo hqr h12 hcy hpp hst hqn hqt hqc hid hbi hmid hmbi hop hrd hwy hwl hws
    have yb : 0 ≤ y ∧ y ≤ 1000 := by have := HYS.out; omega
    have yw : wrap64 (y + 1) = y + 1 := by unfold wrap64; omega
    by_cases hv0 : h + 1 ≤ l.many
    case pos =>
      obtain rfl := hv.2 hv0
      have x0 : w6.cell? ⟨w4.heap.size, 0, none⟩ = some (.int .u16 m.id) := hxb6.cell 0
      have x1 : w6.cell? ⟨w4.heap.size, 1, none⟩ = some (.int .u16 m.bi) := hxb6.cell 1
      have x2 : w6.cell? ⟨w4.heap.size, 2, none⟩ = some (.slice m.qA m.q.length m.qc) := hxb6.cell 2
      have x3 : w6.cell? ⟨w4.heap.size, 3, none⟩ = some (.slice m.sA m.s.length m.sc) := hxb6.cell 3
      have x4 : w6.cell? ⟨w4.heap.size, 4, none⟩ = some (.slice m.hA m.h.length m.hc) := hxb6.cell 4
      have x5 : w6.cell? ⟨w4.heap.size, 5, none⟩ = some (.slice m.eA m.e.length m.ec) := hxb6.cell 5
      have x6 : w6.cell? ⟨w4.heap.size, 6, none⟩ = some (.bool th) := hxb6.cell 6
      have x7 : w6.cell? ⟨w4.heap.size, 7, none⟩ = some (.int .u16 sz) := hxb6.cell 7
      have x8 : w6.cell? ⟨w4.heap.size, 8, none⟩ = some (.int .u8 hi) := hxb6.cell 8
      have x9 : w6.cell? ⟨w4.heap.size, 9, none⟩ = some (.int .u8 ve) := hxb6.cell 9
      have x10 : w6.cell? ⟨w4.heap.size, 10, none⟩ = some (.int .u16 fl) := hxb6.cell 10
      have x11 : w6.cell? ⟨w4.heap.size, 11, none⟩ = some (.slice B1 n1 c1) := hxb6.cell 11
      have x12 : w6.cell? ⟨w4.heap.size, 12, none⟩ = some (.string cl) := hxb6.cell 12
      have x13 : w6.cell? ⟨w4.heap.size, 13, none⟩ = some (.string sv) := hxb6.cell 13
      have x14 : w6.cell? ⟨w4.heap.size, 14, none⟩ = some (.int .i64 (-1)) := hxb6.cell 14
      have HV0 := Lib.hid hv0
      clear hxb6 hv hv0
      go_wp2_with (fail)
      refine HST.out.mono ?_
      rintro e w7 ⟨A7, c7, rfl, hq7, hc7, hm7, hb7⟩
      rw [HQQ.out.1] at hq7 hc7
      have HW7 := Lib.hid (HWR.out A7 c7 w7 hq7 ⟨hc7, hm7⟩)
      have H7 := Lib.hid (And.intro (H6.out.1.below hb7) (And.intro (H6.out.2.1.below hb7 H6.out.2.1.lt) (H6.out.2.2.below hb7 H6.out.2.2.lt)))
      rw [HQQ.out.1, HQQ.out.2.1, HQQ.out.2.2]
      dsimp only [MRec.val, askM, List.length_cons, List.length_nil] at HW7 ⊢
      clear hq7 hc7 hm7 hb7 HST HWR
      go_wp2_with (fail)
      refine HW7.out.mono ?_
      rintro e w8 ⟨rfl, hb8⟩
      have H8 := Lib.hid (And.intro (H7.out.1.below hb8) (And.intro (H7.out.2.1.below hb8 H7.out.2.1.lt) (H7.out.2.2.below hb8 H7.out.2.2.lt)))
      clear hb8 HW7
      go_wp2_with (fail)
      refine (HL2.out _).mono ?_
      rintro e w9 ⟨hb9, m', th', sz', hi', ve', fl', B2, n2, c2, cl', sv', code', rfl, hy1, hy2⟩
      obtain rfl : code' = -1 := hy1 HWY.out.1
      obtain ⟨hsl', hown', hmo', _, _, ve2, bad2, q', hcy'⟩ := hy2 rfl
      have hq' : q' = ⟨qn, tn, cn⟩ := by
        obtain ⟨p', hp'⟩ := hmo'.ask
        rw [hcy'.q] at hp'
        have h1 := hp'.one
        have h2 := HWY.out.2
        have h3 : (⟨(wireB idN biN ⟨qn, tn, cn⟩).toArray⟩ : ByteArray).data.toList = wireB idN biN ⟨qn, tn, cn⟩ := by simp
        rw [h3, h2] at h1
        injection h1 with h1
        injection h1 with h1 _
        exact h1.symm
      have hmq' : m'.q = [⟨qn, tn, cn⟩] := by rw [hcy'.q, hq']
      have hb10 : Below w8.heap.size w8 (w9.alloc (.cells #[.int .u16 m'.id, .int .u16 m'.bi, .slice m'.qA m'.q.length m'.qc, .slice m'.sA m'.s.length m'.sc, .slice m'.hA m'.h.length m'.hc, .slice m'.eA m'.e.length m'.ec, .bool th', .int .u16 sz', .int .u8 hi', .int .u8 ve', .int .u16 fl', .slice B2 n2 c2, .string cl', .string sv', .int .i64 (-1)] 40)) := hb9.trans (((Below.refl _ _).alloc (Nat.le_refl _) _).mono hb9.size)
      have hyb : Blk (w9.alloc (.cells #[.int .u16 m'.id, .int .u16 m'.bi, .slice m'.qA m'.q.length m'.qc, .slice m'.sA m'.s.length m'.sc, .slice m'.hA m'.h.length m'.hc, .slice m'.eA m'.e.length m'.ec, .bool th', .int .u16 sz', .int .u8 hi', .int .u8 ve', .int .u16 fl', .slice B2 n2 c2, .string cl', .string sv', .int .i64 (-1)] 40)) w9.heap.size 40 #[.int .u16 m'.id, .int .u16 m'.bi, .slice m'.qA m'.q.length m'.qc, .slice m'.sA m'.s.length m'.sc, .slice m'.hA m'.h.length m'.hc, .slice m'.eA m'.e.length m'.ec, .bool th', .int .u16 sz', .int .u8 hi', .int .u8 ve', .int .u16 fl', .slice B2 n2 c2, .string cl', .string sv', .int .i64 (-1)] := Blk.new _ _ _
      have hxb : Blk (w9.alloc (.cells #[.int .u16 m'.id, .int .u16 m'.bi, .slice m'.qA m'.q.length m'.qc, .slice m'.sA m'.s.length m'.sc, .slice m'.hA m'.h.length m'.hc, .slice m'.eA m'.e.length m'.ec, .bool th', .int .u16 sz', .int .u8 hi', .int .u8 ve', .int .u16 fl', .slice B2 n2 c2, .string cl', .string sv', .int .i64 (-1)] 40)) w4.heap.size 40 #[.int .u16 m.id, .int .u16 m.bi, .slice m.qA m.q.length m.qc, .slice m.sA m.s.length m.sc, .slice m.hA m.h.length m.hc, .slice m.eA m.e.length m.ec, .bool th, .int .u16 sz, .int .u8 hi, .int .u8 ve, .int .u16 fl, .slice B1 n1 c1, .string cl, .string sv, .int .i64 (-1)] := H8.out.2.1.below hb10 H8.out.2.1.lt
      have hsx := H8.out.2.2.below hb10 H8.out.2.2.lt
      have hsy := (show Sl w9 3 (.slice m'.qA [(⟨qn, tn, cn⟩ : QRec)].length m'.qc) [(⟨qn, tn, cn⟩ : QRec)].length (flatV QRec.vs [⟨qn, tn, cn⟩]) by rw [← hmq']; exact hsl').alloc (.cells #[.int .u16 m'.id, .int .u16 m'.bi, .slice m'.qA m'.q.length m'.qc, .slice m'.sA m'.s.length m'.sc, .slice m'.hA m'.h.length m'.hc, .slice m'.eA m'.e.length m'.ec, .bool th', .int .u16 sz', .int .u8 hi', .int .u8 ve', .int .u16 fl', .slice B2 n2 c2, .string cl', .string sv', .int .i64 (-1)] 40)
      rw [HQQ.out.1] at hsx
      obtain ⟨qb, qo, hxA, hqb, x0, x1, x2⟩ := QTabl.cells (A := m.qA) (xs := [⟨qn, tn, cn⟩]) (GTab.of_sl QRec.three hsx) (k := 0) (e := ⟨qn, tn, cn⟩) rfl
      obtain ⟨rb, ro, hyA, hrb, y0, y1, y2⟩ := QTabl.cells (A := m'.qA) (xs := [⟨qn, tn, cn⟩]) (GTab.of_sl QRec.three hsy) (k := 0) (e := ⟨qn, tn, cn⟩) rfl
      rw [Nat.zero_mul, Nat.add_zero] at x0 x1 x2 y0 y1 y2
      obtain ⟨_, _, ex, ex2, ex3⟩ := hsx.shape
      injection ex with ex0 exl ex
      clear ex0 exl
      obtain ⟨_, _, ey, ey2, ey3⟩ := hsy.shape
      injection ey with ey0 eyl ey
      clear ey0 eyl
      have hxc : 1 ≤ m.qc := by rw [ex]; exact ex2
      have hyc : 1 ≤ m'.qc := by rw [ey]; exact ey2
      have k0 : ∀ p : BelowOf (w9.alloc (.cells #[.int .u16 m'.id, .int .u16 m'.bi, .slice m'.qA m'.q.length m'.qc, .slice m'.sA m'.s.length m'.sc, .slice m'.hA m'.h.length m'.hc, .slice m'.eA m'.e.length m'.ec, .bool th', .int .u16 sz', .int .u8 hi', .int .u8 ve', .int .u16 fl', .slice B2 n2 c2, .string cl', .string sv', .int .i64 (-1)] 40)), p.X.cell? ⟨w9.heap.size, 14, none⟩ = some (.int .i64 (-1)) := fun p => (hyb.low p).cell 14
      have k1 : ∀ p : BelowOf (w9.alloc (.cells #[.int .u16 m'.id, .int .u16 m'.bi, .slice m'.qA m'.q.length m'.qc, .slice m'.sA m'.s.length m'.sc, .slice m'.hA m'.h.length m'.hc, .slice m'.eA m'.e.length m'.ec, .bool th', .int .u16 sz', .int .u8 hi', .int .u8 ve', .int .u16 fl', .slice B2 n2 c2, .string cl', .string sv', .int .i64 (-1)] 40)), p.X.cell? ⟨w9.heap.size, 2, none⟩ = some (.slice (some ⟨rb, ro, none⟩) 1 m'.qc) := fun p => by rw [← hyA, show (1 : Nat) = m'.q.length by rw [hmq']; rfl]; exact (hyb.low p).cell 2
      have k2 : ∀ p : BelowOf (w9.alloc (.cells #[.int .u16 m'.id, .int .u16 m'.bi, .slice m'.qA m'.q.length m'.qc, .slice m'.sA m'.s.length m'.sc, .slice m'.hA m'.h.length m'.hc, .slice m'.eA m'.e.length m'.ec, .bool th', .int .u16 sz', .int .u8 hi', .int .u8 ve', .int .u16 fl', .slice B2 n2 c2, .string cl', .string sv', .int .i64 (-1)] 40)), p.X.cell? ⟨w4.heap.size, 2, none⟩ = some (.slice (some ⟨qb, qo, none⟩) 1 m.qc) := fun p => by rw [← hxA, show (1 : Nat) = m.q.length by rw [HQQ.out.1]; rfl]; exact (hxb.low p).cell 2
      have l0 : ∀ p : BelowOf (w9.alloc (.cells #[.int .u16 m'.id, .int .u16 m'.bi, .slice m'.qA m'.q.length m'.qc, .slice m'.sA m'.s.length m'.sc, .slice m'.hA m'.h.length m'.hc, .slice m'.eA m'.e.length m'.ec, .bool th', .int .u16 sz', .int .u8 hi', .int .u8 ve', .int .u16 fl', .slice B2 n2 c2, .string cl', .string sv', .int .i64 (-1)] 40)), p.X.cell? ⟨qb, qo, none⟩ = some (.string qn) := fun p => (p.h.cell (p := ⟨qb, qo, none⟩) hqb).trans x0
      have l1 : ∀ p : BelowOf (w9.alloc (.cells #[.int .u16 m'.id, .int .u16 m'.bi, .slice m'.qA m'.q.length m'.qc, .slice m'.sA m'.s.length m'.sc, .slice m'.hA m'.h.length m'.hc, .slice m'.eA m'.e.length m'.ec, .bool th', .int .u16 sz', .int .u8 hi', .int .u8 ve', .int .u16 fl', .slice B2 n2 c2, .string cl', .string sv', .int .i64 (-1)] 40)), p.X.cell? ⟨qb, qo + 1, none⟩ = some (.int .u16 (tn : Int)) := fun p => (p.h.cell (p := ⟨qb, qo + 1, none⟩) hqb).trans x1
      have l2 : ∀ p : BelowOf (w9.alloc (.cells #[.int .u16 m'.id, .int .u16 m'.bi, .slice m'.qA m'.q.length m'.qc, .slice m'.sA m'.s.length m'.sc, .slice m'.hA m'.h.length m'.hc, .slice m'.eA m'.e.length m'.ec, .bool th', .int .u16 sz', .int .u8 hi', .int .u8 ve', .int .u16 fl', .slice B2 n2 c2, .string cl', .string sv', .int .i64 (-1)] 40)), p.X.cell? ⟨qb, qo + 2, none⟩ = some (.int .u16 (cn : Int)) := fun p => (p.h.cell (p := ⟨qb, qo + 2, none⟩) hqb).trans x2
      have r0 : ∀ p : BelowOf (w9.alloc (.cells #[.int .u16 m'.id, .int .u16 m'.bi, .slice m'.qA m'.q.length m'.qc, .slice m'.sA m'.s.length m'.sc, .slice m'.hA m'.h.length m'.hc, .slice m'.eA m'.e.length m'.ec, .bool th', .int .u16 sz', .int .u8 hi', .int .u8 ve', .int .u16 fl', .slice B2 n2 c2, .string cl', .string sv', .int .i64 (-1)] 40)), p.X.cell? ⟨rb, ro, none⟩ = some (.string qn) := fun p => (p.h.cell (p := ⟨rb, ro, none⟩) hrb).trans y0
      have r1 : ∀ p : BelowOf (w9.alloc (.cells #[.int .u16 m'.id, .int .u16 m'.bi, .slice m'.qA m'.q.length m'.qc, .slice m'.sA m'.s.length m'.sc, .slice m'.hA m'.h.length m'.hc, .slice m'.eA m'.e.length m'.ec, .bool th', .int .u16 sz', .int .u8 hi', .int .u8 ve', .int .u16 fl', .slice B2 n2 c2, .string cl', .string sv', .int .i64 (-1)] 40)), p.X.cell? ⟨rb, ro + 1, none⟩ = some (.int .u16 (tn : Int)) := fun p => (p.h.cell (p := ⟨rb, ro + 1, none⟩) hrb).trans y1
      have r2 : ∀ p : BelowOf (w9.alloc (.cells #[.int .u16 m'.id, .int .u16 m'.bi, .slice m'.qA m'.q.length m'.qc, .slice m'.sA m'.s.length m'.sc, .slice m'.hA m'.h.length m'.hc, .slice m'.eA m'.e.length m'.ec, .bool th', .int .u16 sz', .int .u8 hi', .int .u8 ve', .int .u16 fl', .slice B2 n2 c2, .string cl', .string sv', .int .i64 (-1)] 40)), p.X.cell? ⟨rb, ro + 2, none⟩ = some (.int .u16 (cn : Int)) := fun p => (p.h.cell (p := ⟨rb, ro + 2, none⟩) hrb).trans y2
      have hne : ∀ W, (binOp .neq 49 (.agg #[.string qn, .int .u16 (tn : Int), .int .u16 (cn : Int)]) (.agg #[.string qn, .int .u16 (tn : Int), .int .u16 (cn : Int)])).run Try.prog W = .ok (.bool false) W := fun W => neq_qq ⟨qn, tn, cn⟩ W
      have HS10 := Lib.hid (H8.out.1.below hb10)
      clear hy1 hy2 hsl' hown' hmo' hcy' hq' hmq' hb10 hyb hxb hsx hsy hxA hyA x0 x1 x2 y0 y1 y2 hqb hrb ex ex2 ex3 ey ey2 ey3 hb9 HL2
      unfold reqV
      go_wp2_with (fail)
      refine wp_region_low (by kernel_rfl) (by kernel_rfl) ?_
      repeat (refine low_step (fun K hK => ?_); go_simp; (refine hK _ ?_; clear hK K))
      refine low_nil ?_
      rintro ⟨W11, hb11⟩
      dsimp only
      have HS11 := Lib.hid (HS10.out.below hb11)
      clear hb11 k0 k1 k2 l0 l1 l2 r0 r1 r2 hne
      go_wp2_with (fail)
      go_roundg (xs.length + 1 - (k + 1))
      case measure => omega
      case rel =>
        have hz := HS11.out
        rw [if_pos HV0.out, if_pos HV0.out] at hz
        exact ⟨k + 1, y + 1, h + 1, o, by go_num, rfl, by omega, by omega, hz⟩
    case neg =>
      have hvn : v ≠ 0 := fun e => hv0 (hv.1 e)
      have hvI : (v == 0) = false := by rw [beq_eq_false_iff_ne]; exact hvn
      have x0 : w6.cell? ⟨w4.heap.size, 0, none⟩ = some (.int .u16 m.id) := hxb6.cell 0
      have x1 : w6.cell? ⟨w4.heap.size, 1, none⟩ = some (.int .u16 m.bi) := hxb6.cell 1
      have x2 : w6.cell? ⟨w4.heap.size, 2, none⟩ = some (.slice m.qA m.q.length m.qc) := hxb6.cell 2
      have x3 : w6.cell? ⟨w4.heap.size, 3, none⟩ = some (.slice m.sA m.s.length m.sc) := hxb6.cell 3
      have x4 : w6.cell? ⟨w4.heap.size, 4, none⟩ = some (.slice m.hA m.h.length m.hc) := hxb6.cell 4
      have x5 : w6.cell? ⟨w4.heap.size, 5, none⟩ = some (.slice m.eA m.e.length m.ec) := hxb6.cell 5
      have x6 : w6.cell? ⟨w4.heap.size, 6, none⟩ = some (.bool th) := hxb6.cell 6
      have x7 : w6.cell? ⟨w4.heap.size, 7, none⟩ = some (.int .u16 sz) := hxb6.cell 7
      have x8 : w6.cell? ⟨w4.heap.size, 8, none⟩ = some (.int .u8 hi) := hxb6.cell 8
      have x9 : w6.cell? ⟨w4.heap.size, 9, none⟩ = some (.int .u8 ve) := hxb6.cell 9
      have x10 : w6.cell? ⟨w4.heap.size, 10, none⟩ = some (.int .u16 fl) := hxb6.cell 10
      have x11 : w6.cell? ⟨w4.heap.size, 11, none⟩ = some (.slice B1 n1 c1) := hxb6.cell 11
      have x12 : w6.cell? ⟨w4.heap.size, 12, none⟩ = some (.string cl) := hxb6.cell 12
      have x13 : w6.cell? ⟨w4.heap.size, 13, none⟩ = some (.string sv) := hxb6.cell 13
      have x14 : w6.cell? ⟨w4.heap.size, 14, none⟩ = some (.int .i64 (-1)) := hxb6.cell 14
      have HV0 := Lib.hid (show ¬ h + 1 ≤ l.many from hv0)
      clear hxb6 hv hvn hv0
      go_wp2_with (fail)
      refine HST.out.mono ?_
      rintro e w7 ⟨A7, c7, rfl, hq7, hc7, hm7, hb7⟩
      rw [HQQ.out.1] at hq7 hc7
      have HW7 := Lib.hid (HWR.out A7 c7 w7 hq7 ⟨hc7, hm7⟩)
      have H7 := Lib.hid (And.intro (H6.out.1.below hb7) (And.intro (H6.out.2.1.below hb7 H6.out.2.1.lt) (H6.out.2.2.below hb7 H6.out.2.2.lt)))
      rw [HQQ.out.1, HQQ.out.2.1, HQQ.out.2.2]
      dsimp only [MRec.val, askM, List.length_cons, List.length_nil] at HW7 ⊢
      clear hq7 hc7 hm7 hb7 HST HWR
      go_wp2_with (fail)
      refine HW7.out.mono ?_
      rintro e w8 ⟨rfl, hb8⟩
      have H8 := Lib.hid (And.intro (H7.out.1.below hb8) (And.intro (H7.out.2.1.below hb8 H7.out.2.1.lt) (H7.out.2.2.below hb8 H7.out.2.2.lt)))
      clear hb8 HW7
      go_wp2_with (fail)
      refine (HL2.out _).mono ?_
      rintro e w9 ⟨hb9, m', th', sz', hi', ve', fl', B2, n2, c2, cl', sv', code', rfl, hy1, hy2⟩
      obtain rfl : code' = -1 := hy1 HWY.out.1
      obtain ⟨hsl', hown', hmo', _, _, ve2, bad2, q', hcy'⟩ := hy2 rfl
      have hq' : q' = ⟨qn, tn, cn⟩ := by
        obtain ⟨p', hp'⟩ := hmo'.ask
        rw [hcy'.q] at hp'
        have h1 := hp'.one
        have h2 := HWY.out.2
        have h3 : (⟨(wireB idN biN ⟨qn, tn, cn⟩).toArray⟩ : ByteArray).data.toList = wireB idN biN ⟨qn, tn, cn⟩ := by simp
        rw [h3, h2] at h1
        injection h1 with h1
        injection h1 with h1 _
        exact h1.symm
      have hmq' : m'.q = [⟨qn, tn, cn⟩] := by rw [hcy'.q, hq']
      have hb10 : Below w8.heap.size w8 (w9.alloc (.cells #[.int .u16 m'.id, .int .u16 m'.bi, .slice m'.qA m'.q.length m'.qc, .slice m'.sA m'.s.length m'.sc, .slice m'.hA m'.h.length m'.hc, .slice m'.eA m'.e.length m'.ec, .bool th', .int .u16 sz', .int .u8 hi', .int .u8 ve', .int .u16 fl', .slice B2 n2 c2, .string cl', .string sv', .int .i64 (-1)] 40)) := hb9.trans (((Below.refl _ _).alloc (Nat.le_refl _) _).mono hb9.size)
      have hyb : Blk (w9.alloc (.cells #[.int .u16 m'.id, .int .u16 m'.bi, .slice m'.qA m'.q.length m'.qc, .slice m'.sA m'.s.length m'.sc, .slice m'.hA m'.h.length m'.hc, .slice m'.eA m'.e.length m'.ec, .bool th', .int .u16 sz', .int .u8 hi', .int .u8 ve', .int .u16 fl', .slice B2 n2 c2, .string cl', .string sv', .int .i64 (-1)] 40)) w9.heap.size 40 #[.int .u16 m'.id, .int .u16 m'.bi, .slice m'.qA m'.q.length m'.qc, .slice m'.sA m'.s.length m'.sc, .slice m'.hA m'.h.length m'.hc, .slice m'.eA m'.e.length m'.ec, .bool th', .int .u16 sz', .int .u8 hi', .int .u8 ve', .int .u16 fl', .slice B2 n2 c2, .string cl', .string sv', .int .i64 (-1)] := Blk.new _ _ _
      have hxb : Blk (w9.alloc (.cells #[.int .u16 m'.id, .int .u16 m'.bi, .slice m'.qA m'.q.length m'.qc, .slice m'.sA m'.s.length m'.sc, .slice m'.hA m'.h.length m'.hc, .slice m'.eA m'.e.length m'.ec, .bool th', .int .u16 sz', .int .u8 hi', .int .u8 ve', .int .u16 fl', .slice B2 n2 c2, .string cl', .string sv', .int .i64 (-1)] 40)) w4.heap.size 40 #[.int .u16 m.id, .int .u16 m.bi, .slice m.qA m.q.length m.qc, .slice m.sA m.s.length m.sc, .slice m.hA m.h.length m.hc, .slice m.eA m.e.length m.ec, .bool th, .int .u16 sz, .int .u8 hi, .int .u8 ve, .int .u16 fl, .slice B1 n1 c1, .string cl, .string sv, .int .i64 (-1)] := H8.out.2.1.below hb10 H8.out.2.1.lt
      have hsx := H8.out.2.2.below hb10 H8.out.2.2.lt
      have hsy := (show Sl w9 3 (.slice m'.qA [(⟨qn, tn, cn⟩ : QRec)].length m'.qc) [(⟨qn, tn, cn⟩ : QRec)].length (flatV QRec.vs [⟨qn, tn, cn⟩]) by rw [← hmq']; exact hsl').alloc (.cells #[.int .u16 m'.id, .int .u16 m'.bi, .slice m'.qA m'.q.length m'.qc, .slice m'.sA m'.s.length m'.sc, .slice m'.hA m'.h.length m'.hc, .slice m'.eA m'.e.length m'.ec, .bool th', .int .u16 sz', .int .u8 hi', .int .u8 ve', .int .u16 fl', .slice B2 n2 c2, .string cl', .string sv', .int .i64 (-1)] 40)
      rw [HQQ.out.1] at hsx
      obtain ⟨qb, qo, hxA, hqb, x0, x1, x2⟩ := QTabl.cells (A := m.qA) (xs := [⟨qn, tn, cn⟩]) (GTab.of_sl QRec.three hsx) (k := 0) (e := ⟨qn, tn, cn⟩) rfl
      obtain ⟨rb, ro, hyA, hrb, y0, y1, y2⟩ := QTabl.cells (A := m'.qA) (xs := [⟨qn, tn, cn⟩]) (GTab.of_sl QRec.three hsy) (k := 0) (e := ⟨qn, tn, cn⟩) rfl
      rw [Nat.zero_mul, Nat.add_zero] at x0 x1 x2 y0 y1 y2
      obtain ⟨_, _, ex, ex2, ex3⟩ := hsx.shape
      injection ex with ex0 exl ex
      clear ex0 exl
      obtain ⟨_, _, ey, ey2, ey3⟩ := hsy.shape
      injection ey with ey0 eyl ey
      clear ey0 eyl
      have hxc : 1 ≤ m.qc := by rw [ex]; exact ex2
      have hyc : 1 ≤ m'.qc := by rw [ey]; exact ey2
      have k0 : ∀ p : BelowOf (w9.alloc (.cells #[.int .u16 m'.id, .int .u16 m'.bi, .slice m'.qA m'.q.length m'.qc, .slice m'.sA m'.s.length m'.sc, .slice m'.hA m'.h.length m'.hc, .slice m'.eA m'.e.length m'.ec, .bool th', .int .u16 sz', .int .u8 hi', .int .u8 ve', .int .u16 fl', .slice B2 n2 c2, .string cl', .string sv', .int .i64 (-1)] 40)), p.X.cell? ⟨w9.heap.size, 14, none⟩ = some (.int .i64 (-1)) := fun p => (hyb.low p).cell 14
      have k1 : ∀ p : BelowOf (w9.alloc (.cells #[.int .u16 m'.id, .int .u16 m'.bi, .slice m'.qA m'.q.length m'.qc, .slice m'.sA m'.s.length m'.sc, .slice m'.hA m'.h.length m'.hc, .slice m'.eA m'.e.length m'.ec, .bool th', .int .u16 sz', .int .u8 hi', .int .u8 ve', .int .u16 fl', .slice B2 n2 c2, .string cl', .string sv', .int .i64 (-1)] 40)), p.X.cell? ⟨w9.heap.size, 2, none⟩ = some (.slice (some ⟨rb, ro, none⟩) 1 m'.qc) := fun p => by rw [← hyA, show (1 : Nat) = m'.q.length by rw [hmq']; rfl]; exact (hyb.low p).cell 2
      have k2 : ∀ p : BelowOf (w9.alloc (.cells #[.int .u16 m'.id, .int .u16 m'.bi, .slice m'.qA m'.q.length m'.qc, .slice m'.sA m'.s.length m'.sc, .slice m'.hA m'.h.length m'.hc, .slice m'.eA m'.e.length m'.ec, .bool th', .int .u16 sz', .int .u8 hi', .int .u8 ve', .int .u16 fl', .slice B2 n2 c2, .string cl', .string sv', .int .i64 (-1)] 40)), p.X.cell? ⟨w4.heap.size, 2, none⟩ = some (.slice (some ⟨qb, qo, none⟩) 1 m.qc) := fun p => by rw [← hxA, show (1 : Nat) = m.q.length by rw [HQQ.out.1]; rfl]; exact (hxb.low p).cell 2
      have l0 : ∀ p : BelowOf (w9.alloc (.cells #[.int .u16 m'.id, .int .u16 m'.bi, .slice m'.qA m'.q.length m'.qc, .slice m'.sA m'.s.length m'.sc, .slice m'.hA m'.h.length m'.hc, .slice m'.eA m'.e.length m'.ec, .bool th', .int .u16 sz', .int .u8 hi', .int .u8 ve', .int .u16 fl', .slice B2 n2 c2, .string cl', .string sv', .int .i64 (-1)] 40)), p.X.cell? ⟨qb, qo, none⟩ = some (.string qn) := fun p => (p.h.cell (p := ⟨qb, qo, none⟩) hqb).trans x0
      have l1 : ∀ p : BelowOf (w9.alloc (.cells #[.int .u16 m'.id, .int .u16 m'.bi, .slice m'.qA m'.q.length m'.qc, .slice m'.sA m'.s.length m'.sc, .slice m'.hA m'.h.length m'.hc, .slice m'.eA m'.e.length m'.ec, .bool th', .int .u16 sz', .int .u8 hi', .int .u8 ve', .int .u16 fl', .slice B2 n2 c2, .string cl', .string sv', .int .i64 (-1)] 40)), p.X.cell? ⟨qb, qo + 1, none⟩ = some (.int .u16 (tn : Int)) := fun p => (p.h.cell (p := ⟨qb, qo + 1, none⟩) hqb).trans x1
      have l2 : ∀ p : BelowOf (w9.alloc (.cells #[.int .u16 m'.id, .int .u16 m'.bi, .slice m'.qA m'.q.length m'.qc, .slice m'.sA m'.s.length m'.sc, .slice m'.hA m'.h.length m'.hc, .slice m'.eA m'.e.length m'.ec, .bool th', .int .u16 sz', .int .u8 hi', .int .u8 ve', .int .u16 fl', .slice B2 n2 c2, .string cl', .string sv', .int .i64 (-1)] 40)), p.X.cell? ⟨qb, qo + 2, none⟩ = some (.int .u16 (cn : Int)) := fun p => (p.h.cell (p := ⟨qb, qo + 2, none⟩) hqb).trans x2
      have r0 : ∀ p : BelowOf (w9.alloc (.cells #[.int .u16 m'.id, .int .u16 m'.bi, .slice m'.qA m'.q.length m'.qc, .slice m'.sA m'.s.length m'.sc, .slice m'.hA m'.h.length m'.hc, .slice m'.eA m'.e.length m'.ec, .bool th', .int .u16 sz', .int .u8 hi', .int .u8 ve', .int .u16 fl', .slice B2 n2 c2, .string cl', .string sv', .int .i64 (-1)] 40)), p.X.cell? ⟨rb, ro, none⟩ = some (.string qn) := fun p => (p.h.cell (p := ⟨rb, ro, none⟩) hrb).trans y0
      have r1 : ∀ p : BelowOf (w9.alloc (.cells #[.int .u16 m'.id, .int .u16 m'.bi, .slice m'.qA m'.q.length m'.qc, .slice m'.sA m'.s.length m'.sc, .slice m'.hA m'.h.length m'.hc, .slice m'.eA m'.e.length m'.ec, .bool th', .int .u16 sz', .int .u8 hi', .int .u8 ve', .int .u16 fl', .slice B2 n2 c2, .string cl', .string sv', .int .i64 (-1)] 40)), p.X.cell? ⟨rb, ro + 1, none⟩ = some (.int .u16 (tn : Int)) := fun p => (p.h.cell (p := ⟨rb, ro + 1, none⟩) hrb).trans y1
      have r2 : ∀ p : BelowOf (w9.alloc (.cells #[.int .u16 m'.id, .int .u16 m'.bi, .slice m'.qA m'.q.length m'.qc, .slice m'.sA m'.s.length m'.sc, .slice m'.hA m'.h.length m'.hc, .slice m'.eA m'.e.length m'.ec, .bool th', .int .u16 sz', .int .u8 hi', .int .u8 ve', .int .u16 fl', .slice B2 n2 c2, .string cl', .string sv', .int .i64 (-1)] 40)), p.X.cell? ⟨rb, ro + 2, none⟩ = some (.int .u16 (cn : Int)) := fun p => (p.h.cell (p := ⟨rb, ro + 2, none⟩) hrb).trans y2
      have hne : ∀ W, (binOp .neq 49 (.agg #[.string qn, .int .u16 (tn : Int), .int .u16 (cn : Int)]) (.agg #[.string qn, .int .u16 (tn : Int), .int .u16 (cn : Int)])).run Try.prog W = .ok (.bool false) W := fun W => neq_qq ⟨qn, tn, cn⟩ W
      have HS10 := Lib.hid (H8.out.1.below hb10)
      clear hy1 hy2 hsl' hown' hmo' hcy' hq' hmq' hb10 hyb hxb hsx hsy hxA hyA x0 x1 x2 y0 y1 y2 hqb hrb ex ex2 ex3 ey ey2 ey3 hb9 HL2
      unfold reqV
      go_wp2_with (fail)
      refine wp_region_low (by kernel_rfl) (by kernel_rfl) ?_
      repeat (refine low_step (fun K hK => ?_); go_simp; (refine hK _ ?_; clear hK K))
      refine low_nil ?_
      rintro ⟨W11, hb11⟩
      dsimp only
      have HS11 := Lib.hid (HS10.out.below hb11)
      clear hb11 k0 k1 k2 l0 l1 l2 r0 r1 r2 hne
      go_wp2_with (fail)
      go_roundg (xs.length + 1 - (k + 1))
      case measure => omega
      case rel =>
        have hz := HS11.out
        have hv9 : ¬ h + 1 ≤ l.many := by have := HV0.out; omega
        rw [if_neg hv9, if_neg hv9] at hz
        exact ⟨k + 1, y, h + 1, o + 1, by go_num, rfl, by omega, by omega, hz⟩
end Go.Proofs.Ytgfpnkakglgokaa
