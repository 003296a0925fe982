/- The walk of hardtacklaw07.lives. Conditions: none. -/
import Derived.Test.YthjkdpphbipgfaaEdGetO
import Derived.Test.YthjkdpphbipgfaaAppK
namespace Go.Proofs.Ythjkdpphbipgfaa
open Go.RowKit Go.Shelf Go.Lib

def c07 : ByteArray := ⟨#[49, 50, 51, 52, 53, 54, 55, 56]⟩
def s07 : ByteArray := ⟨#[97, 98, 99, 100, 101, 102, 103, 104]⟩
def o07 : Opt := ⟨10, c07 ++ s07⟩
def d07 : ByteArray := ⟨#[0, 10, 0, 16, 49, 50, 51, 52, 53, 54, 55, 56, 97, 98, 99, 100, 101, 102, 103, 104]⟩
theorem with07 : withO [] c07 s07 = [o07] := rfl
theorem opts07 : optsB [o07] = d07.data.toList := by decide +kernel
theorem right07 : rightB c07 s07 = true := by decide +kernel
theorem ck07 : ckR [o07] = (c07, s07, 0) := by rw [← with07]; exact ckR_with [] c07 s07 right07
theorem ck07' : ckR [(⟨10, ⟨#[49, 50, 51]⟩⟩ : Opt)] = (⟨#[]⟩, ⟨#[]⟩, 2) := by
  have hf : ([(⟨10, ⟨#[49, 50, 51]⟩⟩ : Opt)].find? (Opt.is 10)) = some ⟨10, ⟨#[49, 50, 51]⟩⟩ := rfl
  rw [ckR_of hf (ck_small (show (⟨#[49, 50, 51]⟩ : ByteArray).size ≤ 8 by decide)).1 (ck_small (show (⟨#[49, 50, 51]⟩ : ByteArray).size ≤ 8 by decide)).2]
  rfl
theorem n07 : (⟨#[0]⟩ : ByteArray).toList = [0] := by decide +kernel
theorem d07l : d07.toList = [0, 10, 0, 16, 49, 50, 51, 52, 53, 54, 55, 56, 97, 98, 99, 100, 101, 102, 103, 104] := by decide +kernel
theorem c07l : c07.toList = [49, 50, 51, 52, 53, 54, 55, 56] := by decide +kernel
theorem s07l : s07.toList = [97, 98, 99, 100, 101, 102, 103, 104] := by decide +kernel
set_option maxRecDepth 100000 in
theorem code07 (id : Int) (q s h e : Value) (th : Bool) (sz ve fl : Int) (o : Value) (w : World) :
    Calls Try.prog 51 #[.agg #[.int .u16 id, .int .u16 7, q, s, h, e], .agg #[.bool th, .int .u16 sz, .int .u8 1, .int .u8 ve, .int .u16 fl, o]] w fun e w' => e = .returned (.int .i64 23) ∧ Below w.heap.size w w' := by
  go_enter Try.func51, Try.ntmps51
  go_wp2_with (fail)
  have h23 : bits .or .i64 16 (wrap64 (bits .and .u16 7 15)) = 23 := by decide +kernel
  go_ret
  exact ⟨by simp [h23], ((Below.refl _ _).alloc (Nat.le_refl _) _).alloc (by simp) _⟩
theorem putOK (xs : List Opt) (hx : (optsB xs).length ≤ 4096) (sz hi ve fl : Int) (A : Option Addr) (c : Nat) (w : World) (hT : OTab w A xs) (hl : xs.length ≤ 1000) (hsz : ∀ o ∈ xs, o.d.size ≤ 1000000) :
    ∀ W, Below w.heap.size w W → Calls Try.prog 57 #[ednsV true sz hi ve fl A xs.length c] W fun e w' => ∃ s ok, e = .returned (.tuple #[.string s, .bool ok]) ∧ (ok = true ∧ s.data.toList = optsB xs ∧ s.size ≤ 4096) ∧ Below W.heap.size W w' := by
  intro W hW
  refine (data_yes sz hi ve fl A xs c W (hT.below hW) hl hsz).mono ?_
  rintro e w' ⟨s, ok, rfl, h1, h2, hb⟩
  exact ⟨s, ok, rfl, ⟨h2 hx, h1 (h2 hx)⟩, hb⟩
def r07 : RRec := ⟨⟨#[0]⟩, 41, 1232, 16809984, d07⟩
theorem left07 : leftsR 41 [] = [] := rfl
theorem in_nil (w : World) (id bi : Int) (A B C D : Option Addr) (a b c d : Nat) : MRec.In ⟨id, bi, A, [], a, B, [], b, C, [], c, D, [], d⟩ w := ⟨GTab.nil_, RTab.nil_, RTab.nil_, RTab.nil_⟩
theorem idx07 : idxP (RRec.is 41) [r07] = (0 : Nat) := by decide +kernel
theorem idx07' : idxP (RRec.is 41) ([r07] ++ [r07]) = (0 : Nat) := by decide +kernel
theorem one07 (id bi : Int) (A B C D : Option Addr) (a b c d : Nat) : OneOpt ⟨id, bi, A, [], a, B, [], b, C, [], c, D, [r07], d⟩ 0 r07 [o07] 1232 1 0 32768 := by
  refine ⟨rfl, rfl, rfl, idx07, rfl, rfl, rfl, by decide, opts07.symm, fun o ho => ?_, by decide, by decide⟩
  rw [List.mem_singleton.1 ho]
  exact ⟨by decide, by decide⟩
theorem says07 (A : Option Addr) (c : Nat) : GetSays ⟨0, 0, none, [], 0, none, [], 0, none, [], 0, A, [r07] ++ [r07], c⟩ 4 :=
  .inr (.inr (.inr ⟨rfl, rfl, 0, Nat.zero_lt_two, idx07', rfl, rfl⟩))
theorem says07' : GetSays ⟨0, 0, none, [], 0, none, [], 0, none, [], 0, none, [], 0⟩ 0 := .inr (.inr (.inl ⟨rfl, rfl, by decide +kernel, rfl⟩))
theorem put07e : putE [] true 1232 1 0 32768 d07 = [r07] := rfl
theorem put07 (A : Option Addr) (c : Nat) (w : World) (hO : OTab w A [o07]) :
    Calls Try.prog 26 #[.agg #[.int .u16 0, .int .u16 7, .slice none 0 0, .slice none 0 0, .slice none 0 0, .slice none 0 0], .agg #[.bool true, .int .u16 1232, .int .u8 1, .int .u8 0, .int .u16 32768, .slice A 1 c]] w fun e w' =>
      ∃ qA qc sA sc hA hc eA ec, e = .returned (.tuple #[.agg #[.int .u16 0, .int .u16 7, .slice qA 0 qc, .slice sA 0 sc, .slice hA 0 hc, .slice eA 1 ec], .int .i64 0]) ∧ Below w.heap.size w w' ∧ Sl w' 5 (.slice eA 1 ec) 1 (flatV RRec.vs [r07]) ∧ ∀ g, (Value.slice eA 1 ec).ownBlock = some g → w.heap.size ≤ g := by
  refine (put_any ⟨0, 7, none, [], 0, none, [], 0, none, [], 0, none, [], 0⟩ true 1232 1 0 32768 A 1 c _ w (in_nil _ _ _ _ _ _ _ _ _ _ _) (by decide) (by decide) (putOK [o07] (by rw [opts07]; decide) 1232 1 0 32768 A c w hO (by decide) (fun o ho => by rw [List.mem_singleton.1 ho]; decide))).mono ?_
  rintro e w2 (⟨s, ⟨h, _⟩, _⟩ | ⟨s, qA, qc, sA, sc, hA, hc, eA, ec, hD, rfl, hIn, hb2, hS2, ho2⟩)
  · cases h
  · obtain rfl : s = d07 := ba_of_toList (hD.2.1.trans opts07)
    exact ⟨qA, qc, sA, sc, hA, hc, eA, ec, rfl, hb2, hS2, ho2⟩
theorem get07 (bi : Int) (qA sA hA eA : Option Addr) (qc sc hc ec : Nat) (w : World) (hT : RTab w eA [r07]) (hc1 : 1 ≤ ec ∧ ec ≤ maxLen) :
    Calls Try.prog 27 #[.agg #[.int .u16 0, .int .u16 bi, .slice qA 0 qc, .slice sA 0 sc, .slice hA 0 hc, .slice eA 1 ec]] w fun e w' =>
      ∃ A c, e = .returned (.tuple #[.agg #[.bool true, .int .u16 1232, .int .u8 1, .int .u8 0, .int .u16 32768, .slice A 1 c], .int .i64 0]) ∧ OTab w' A [o07] ∧ Below w.heap.size w w' ∧ Sl w' 2 (.slice A 1 c) 1 (flatO [o07]) ∧ ∀ g, (Value.slice A 1 c).ownBlock = some g → w.heap.size ≤ g :=
  get_opt ⟨0, bi, qA, [], qc, sA, [], sc, hA, [], hc, eA, [r07], ec⟩ 0 r07 [o07] 1232 1 0 32768 w ⟨GTab.nil_, RTab.nil_, RTab.nil_, hT⟩ ⟨Nat.zero_le _, Nat.zero_le _, (show 1 ≤ 4010 by omega), hc1.1, hc1.2⟩ (one07 _ _ _ _ _ _ _ _ _ _)
theorem get07b (eA : Option Addr) (ec : Nat) (w : World) (hT : RTab w eA ([r07] ++ [r07])) (hc1 : 2 ≤ ec ∧ ec ≤ maxLen) :
    Calls Try.prog 27 #[.agg #[.int .u16 0, .int .u16 0, .slice none 0 0, .slice none 0 0, .slice none 0 0, .slice eA 2 ec]] w fun e w' =>
      e = .returned (.tuple #[ednsZ, .int .i64 4]) ∧ Below w.heap.size w w' :=
  get_early ⟨0, 0, none, [], 0, none, [], 0, none, [], 0, eA, [r07] ++ [r07], ec⟩ 4 w ⟨GTab.nil_, RTab.nil_, RTab.nil_, hT⟩ ⟨Nat.zero_le _, Nat.zero_le _, (show 2 ≤ 4010 by omega), hc1.1, hc1.2⟩ (says07 _ _)
theorem get07c (w : World) :
    Calls Try.prog 27 #[.agg #[.int .u16 0, .int .u16 0, .slice none 0 0, .slice none 0 0, .slice none 0 0, .slice none 0 0]] w fun e w' =>
      e = .returned (.tuple #[ednsZ, .int .i64 0]) ∧ Below w.heap.size w w' :=
  get_early ⟨0, 0, none, [], 0, none, [], 0, none, [], 0, none, [], 0⟩ 0 w (in_nil _ _ _ _ _ _ _ _ _ _ _) ⟨by decide, by decide, by decide, Nat.le_refl _, Nat.zero_le _⟩ says07'
theorem cook07 (A : Option Addr) (c : Nat) (w : World) (hO : OTab w A [o07]) :
    Calls Try.prog 25 #[.agg #[.bool true, .int .u16 1232, .int .u8 1, .int .u8 0, .int .u16 32768, .slice A 1 c]] w fun e w' => e = .returned (.tuple #[.string c07, .string s07, .int .i64 0]) ∧ Below w.heap.size w w' := by
  have := Cookies_any true 1232 1 0 32768 A [o07] c w hO (by decide)
  rw [ck07] at this
  exact this
theorem cook07' (g : Nat) (w : World) (hO : Blk w g 92 #[.int .u16 10, .string ⟨#[49, 50, 51]⟩]) :
    Calls Try.prog 25 #[.agg #[.bool false, .int .u16 0, .int .u8 0, .int .u8 0, .int .u16 0, .slice (some ⟨g, 0, none⟩) 1 1]] w fun e w' => e = .returned (.tuple #[.string ⟨#[]⟩, .string ⟨#[]⟩, .int .i64 2]) ∧ Below w.heap.size w w' := by
  have := Cookies_any false 0 0 0 0 (some ⟨g, 0, none⟩) [(⟨10, ⟨#[49, 50, 51]⟩⟩ : Opt)] 1 w ⟨fun e he => by rw [List.mem_singleton.1 he]; exact ⟨by decide, by decide⟩, fun _ => ⟨g, 0, rfl, hO.lt, fun j e he i v hv => by
    match j, he with
    | 0, he =>
      have : (⟨10, ⟨#[49, 50, 51]⟩⟩ : Opt) = e := by simpa using he
      subst this
      match i, hv with
      | 0, hv => exact (hO.cell 0).trans (by simpa [Opt.vs] using hv)
      | 1, hv => exact (hO.cell 1).trans (by simpa [Opt.vs] using hv)
      | i + 2, hv => simp [Opt.vs] at hv
    | j + 1, he => simp at he⟩⟩ (by decide)
  rw [ck07'] at this
  exact this
theorem with07' (A : Option Addr) (c : Nat) (w : World) :
    Calls Try.prog 24 #[.agg #[.bool true, .int .u16 1232, .int .u8 1, .int .u8 0, .int .u16 32768, .slice A 1 c], .string ⟨#[49, 50, 51, 52, 53, 54, 55]⟩, .string ⟨#[]⟩] w fun e w' => e = .returned (.tuple #[ednsZ, .int .i64 2]) ∧ Below w.heap.size w w' :=
  With_no true 1232 1 0 32768 A [o07] c ⟨#[49, 50, 51, 52, 53, 54, 55]⟩ ⟨#[]⟩ (by decide) (by decide) w (by decide +kernel)

/-- What is kept of what was made: the options put in, the message, the options got. -/
structure Kept07 (w v1 v2 W : World) (b1 b3 b5 : Nat) (A1 A5 : Option Addr) (m1 m5 : Nat) (qA sA hA eA : Option Addr) (qc sc hc ec : Nat) : Prop where
  b : Below w.heap.size w v1
  c : Below v1.heap.size v1 W
  e : Blk v1 b1 45 #[.bool true, .int .u16 1232, .int .u8 1, .int .u8 0, .int .u16 32768, .slice A1 1 m1]
  o : OTab v1 A1 [o07]
  m : Blk W b3 26 #[.int .u16 0, .int .u16 7, .slice qA 0 qc, .slice sA 0 sc, .slice hA 0 hc, .slice eA 1 ec]
  f : Blk W b5 45 #[.bool true, .int .u16 1232, .int .u8 1, .int .u8 0, .int .u16 32768, .slice A5 1 m5]
  p : Sl W 2 (.slice A5 1 m5) 1 (flatO [o07])
  s : Sl W 5 (.slice eA 1 ec) 1 (flatV RRec.vs [r07])
  lo : ∀ g, (Value.slice eA 1 ec).ownBlock = some g → v1.heap.size ≤ g ∧ g < v2.heap.size ∧ g < b3 ∧ g < b5
  lp : ∀ g, (Value.slice A5 1 m5).ownBlock = some g → v2.heap.size ≤ g
section
variable {w v1 v2 W V : World} {b1 b3 b5 : Nat} {A1 A5 : Option Addr} {m1 m5 : Nat} {qA sA hA eA : Option Addr} {qc sc hc ec : Nat}
theorem Kept07.below (h : Kept07 w v1 v2 W b1 b3 b5 A1 A5 m1 m5 qA sA hA eA qc sc hc ec) (k : Below W.heap.size W V) : Kept07 w v1 v2 V b1 b3 b5 A1 A5 m1 m5 qA sA hA eA qc sc hc ec :=
  ⟨h.b, belowT h.c k, h.e, h.o, h.m.belowS k, h.f.belowS k, h.p.below k h.p.lt, h.s.below k h.s.lt, h.lo, h.lp⟩
theorem Kept07.grown (h : Kept07 w v1 v2 W b1 b3 b5 A1 A5 m1 m5 qA sA hA eA qc sc hc ec) (k : W.grownBy V (Value.slice eA 1 ec).ownBlock) (hs : Sl V 5 (.slice eA 1 ec) 1 (flatV RRec.vs [r07])) : Kept07 w v1 v2 V b1 b3 b5 A1 A5 m1 m5 qA sA hA eA qc sc hc ec :=
  ⟨h.b, h.c.grown k h.c.size fun g hg => (h.lo g hg).1, h.e, h.o, h.m.grown k (fun e => by have := h.lo _ e.symm; omega), h.f.grown k (fun e => by have := h.lo _ e.symm; omega),
    h.p.keepK (kdApp k) (fun g hg => ⟨h.p.lt g hg, fun e => by have := h.lo g e; have := h.lp g hg; omega⟩), hs, h.lo, h.lp⟩
theorem Kept07.op (h : Kept07 w v1 v2 W b1 b3 b5 A1 A5 m1 m5 qA sA hA eA qc sc hc ec) : OTab W A5 [o07] := otab_of_sl (c := m5) h.p (fun e he => by rw [List.mem_singleton.1 he]; exact ⟨by decide, by decide⟩)
end

set_option maxRecDepth 100000 in
set_option maxHeartbeats 16000000 in
theorem lives07_any (w : World) : Calls Try.prog 22 #[] w fun e w' => e = .returned (.bool true) ∧ Below w.heap.size w w' := by
  have HW := Lib.hid (With_yes false 1232 1 0 32768 none [] 0 c07 s07 (by decide) (by decide) w (OTab.nil_ _ _) (by decide) right07)
  rw [with07] at HW
  go_enter Try.func22, Try.ntmps22
  go_wp2_with (fail)
  refine HW.out.mono ?_
  rintro e w1 ⟨A1, m1, rfl, hO1, hb1⟩
  obtain ⟨v1, hv1⟩ : ∃ v, w1.alloc (.cells #[.bool true, .int .u16 1232, .int .u8 1, .int .u8 0, .int .u16 32768, .slice A1 1 m1] 45) = v := ⟨_, rfl⟩
  have B1 : Blk v1 w1.heap.size 45 #[.bool true, .int .u16 1232, .int .u8 1, .int .u8 0, .int .u16 32768, .slice A1 1 m1] := by rw [← hv1]; exact Blk.new _ _ _
  have hbv1 : Below w1.heap.size w1 v1 := by rw [← hv1]; exact below_allocE _ _
  have x0 := B1.cell 0
  have x1 := B1.cell 1
  have x2 := B1.cell 2
  have x3 := B1.cell 3
  have x4 := B1.cell 4
  have x5 := B1.cell 5
  have HP := Lib.hid (put07 A1 m1 v1 (hO1.below hbv1))
  have H1 := Lib.hid (And.intro (hO1.below hbv1) (And.intro B1 (belowT hb1 hbv1)))
  clear B1 hbv1 hO1 hb1
  go_wp2_with (fail)
  refine HP.out.mono ?_
  rintro e w2 ⟨qA, qc, sA, sc, hA, hc, eA, ec, rfl, hb2, hS2, ho2⟩
  obtain ⟨v2, hv2⟩ : ∃ v, w2.alloc (.cells #[.int .u16 0, .int .u16 7, .slice qA 0 qc, .slice sA 0 sc, .slice hA 0 hc, .slice eA 1 ec] 26) = v := ⟨_, rfl⟩
  have B2 : Blk v2 w2.heap.size 26 #[.int .u16 0, .int .u16 7, .slice qA 0 qc, .slice sA 0 sc, .slice hA 0 hc, .slice eA 1 ec] := by rw [← hv2]; exact Blk.new _ _ _
  have hbv2 : Below w2.heap.size w2 v2 := by rw [← hv2]; exact below_allocE _ _
  have y0 := B2.cell 0
  have y1 := B2.cell 1
  have y2 := B2.cell 2
  have y3 := B2.cell 3
  have y4 := B2.cell 4
  have y5 := B2.cell 5
  obtain ⟨hec1, hec2⟩ : 1 ≤ ec ∧ ec ≤ maxLen := by
    obtain ⟨_, _, hsh, h1, h2⟩ := hS2.shape
    injection hsh with _ _ hsh
    subst hsh
    exact ⟨h1, h2⟩
  have hb12 := belowT hb2 hbv2
  have hSv := hS2.below hbv2 hS2.lt
  have HG := Lib.hid (get07 7 qA sA hA eA qc sc hc ec v2 (rtab_of_sl (c := ec) hSv) ⟨hec1, hec2⟩)
  have H2 := Lib.hid (And.intro (H1.out.1.below hb12) (And.intro (H1.out.2.1.belowS hb12) (And.intro hb12 (And.intro B2 hSv))))
  have HEC := Lib.hid (And.intro hec1 hec2)
  have HL := Lib.hid (show ∀ g, (Value.slice eA 1 ec).ownBlock = some g → v1.heap.size ≤ g ∧ g < w2.heap.size from fun g hg => ⟨ho2 g hg, hS2.lt g hg⟩)
  have h12 : w2.heap.size < v2.heap.size := B2.lt
  clear B2 hbv2 hS2 hb2 hSv hb12 ho2 HP HW hec1 hec2
  go_wp2_with (fail)
  refine HG.out.mono ?_
  rintro e w3 ⟨A5, m5, rfl, hO3, hb3, hP3, hp3⟩
  obtain ⟨v3, hv3⟩ : ∃ v, w3.alloc (.cells #[.bool true, .int .u16 1232, .int .u8 1, .int .u8 0, .int .u16 32768, .slice A5 1 m5] 45) = v := ⟨_, rfl⟩
  have B3 : Blk v3 w3.heap.size 45 #[.bool true, .int .u16 1232, .int .u8 1, .int .u8 0, .int .u16 32768, .slice A5 1 m5] := by rw [← hv3]; exact Blk.new _ _ _
  have hbv3 : Below w3.heap.size w3 v3 := by rw [← hv3]; exact below_allocE _ _
  have z0 := B3.cell 0
  have z1 := B3.cell 1
  have z2 := B3.cell 2
  have z3 := B3.cell 3
  have z4 := B3.cell 4
  have z5 := B3.cell 5
  have hb23 := belowT hb3 hbv3
  have K3 := Lib.hid (show Kept07 w v1 v2 v3 w1.heap.size w2.heap.size w3.heap.size A1 A5 m1 m5 qA sA hA eA qc sc hc ec from
    ⟨H1.out.2.2, belowT H2.out.2.2.1 hb23, H1.out.2.1, H1.out.1, H2.out.2.2.2.1.belowS hb23, B3, hP3.below hbv3 hP3.lt, H2.out.2.2.2.2.below hb23 H2.out.2.2.2.2.lt, fun g hg => by have := HL.out g hg; have := hb3.size; omega, hp3⟩)
  have HK := Lib.hid (cook07 A5 m5 v3 (hO3.below hbv3))
  clear B3 hbv3 hO3 hb3 hb23 H2 HG hP3 hp3 HL H1
  go_wp2_with (fail)
  refine HK.out.mono ?_
  rintro e w4 ⟨rfl, hb4⟩
  have hb4' := belowT hb4 (below_allocE w4 (.cells #[.int .u16 10, .string ⟨#[49, 50, 51]⟩] 92))
  have K4 := Lib.hid (K3.out.below hb4')
  have HK2 := Lib.hid (cook07' w4.heap.size (w4.alloc (.cells #[.int .u16 10, .string ⟨#[49, 50, 51]⟩] 92)) (Blk.new _ _ _))
  clear hb4 hb4' K3 x0 x1 x2 x3 x4 x5 y0 y1 y2 y3 y4 y5 z0 z1 z2 z3 z4 z5
  go_wp2_with (fail)
  refine HK2.out.mono ?_
  rintro e w5 ⟨rfl, hb5⟩
  have K5 := Lib.hid (K4.out.below hb5)
  have x0 := (K5.out.e.belowS K5.out.c).cell 0
  have x1 := (K5.out.e.belowS K5.out.c).cell 1
  have x2 := (K5.out.e.belowS K5.out.c).cell 2
  have x3 := (K5.out.e.belowS K5.out.c).cell 3
  have x4 := (K5.out.e.belowS K5.out.c).cell 4
  have x5 := (K5.out.e.belowS K5.out.c).cell 5
  have HW2 := Lib.hid (with07' A1 m1 w5)
  clear hb5 K4
  go_wp2_with (fail)
  refine HW2.out.mono ?_
  rintro e w6 ⟨rfl, hb6⟩
  clear x0 x1 x2 x3 x4 x5
  have hb6' := belowT hb6 (below_allocE w6 (.cells #[.bool false, .int .u16 0, .int .u8 0, .int .u8 0, .int .u16 0, .slice none 0 0] 45))
  have K6 := Lib.hid (K5.out.below hb6')
  have y5 := K6.out.m.cell 5
  obtain ⟨i0, hi0, hz0, hz1, hz2⟩ := info_parts info_rrE
  have HSR := Lib.hid (src_reads (P := Try.prog) (c := ec) Try.underlying24 ((rtab_of_sl (c := ec) (xs := [r07]) K6.out.s).reads RRec.five (by decide)) (rr_oneE [r07]))
  clear hb6 hb6' K5
  unfold ednsZ
  go_wp2_with (at_builtin; go_must (refine wpList_append_keep _ rfl (.tmp 56) (.tmp 58) 24 24 rfl 30 i0 (.agg #[.string ⟨#[]⟩, .int .u16 0, .int .u16 0, .int .u32 0, .string ⟨#[]⟩]) 5 40 Try.underlying24 hi0 hz0 hz1 hz2 rfl (.slice eA 1 ec) 1 (flatV RRec.vs [r07]) rfl K6.out.s (.slice eA 1 ec) rfl 1 (flatV RRec.vs [r07]) HSR.out (by unfold maxLen; omega) (by omega) ?_); intro v7 w7 hs7 hg7 hv7 ho7; obtain ⟨A7, c7, rfl, hc7, hm7⟩ := hs7.shape; have K7 := Lib.hid (K6.out.grown hg7 ho7); have H7 := Lib.hid (And.intro hs7 (And.intro hc7 hm7)); clear hs7 hg7 hv7 hc7 hm7 ho7)
  have HG7 := Lib.hid (get07b A7 c7 w7 (rtab_of_sl (c := c7) (xs := [r07] ++ [r07]) (by rw [flatV_append]; exact H7.out.1)) H7.out.2)
  clear y5
  refine HG7.out.mono ?_
  unfold ednsZ
  rintro e w8 ⟨rfl, hb8⟩
  have K8 := Lib.hid (K7.out.below (belowT hb8 (below_allocE w8 (.cells #[.bool false, .int .u16 0, .int .u8 0, .int .u8 0, .int .u16 0, .slice none 0 0] 45))))
  clear hb8 K7 HG7
  go_wp2_with (fail)
  with_reducible refine (get07c _).mono ?_
  unfold ednsZ
  rintro e w9 ⟨rfl, hb9⟩
  have K9 := Lib.hid (K8.out.below (belowT hb9 (below_allocE w9 (.cells #[.bool false, .int .u16 0, .int .u8 0, .int .u8 0, .int .u16 0, .slice none 0 0] 45))))
  clear hb9 K8
  have y5 := K9.out.m.cell 5
  obtain ⟨gE, hgE, c0, c1, c2, c3, c4⟩ : ∃ g, eA = some ⟨g, 0, none⟩ ∧ (w9.alloc (.cells #[.bool false, .int .u16 0, .int .u8 0, .int .u8 0, .int .u16 0, .slice none 0 0] 45)).cell? ⟨g, 0, none⟩ = some (.string r07.n) ∧ (w9.alloc (.cells #[.bool false, .int .u16 0, .int .u8 0, .int .u8 0, .int .u16 0, .slice none 0 0] 45)).cell? ⟨g, 1, none⟩ = some (.int .u16 r07.t) ∧ (w9.alloc (.cells #[.bool false, .int .u16 0, .int .u8 0, .int .u8 0, .int .u16 0, .slice none 0 0] 45)).cell? ⟨g, 2, none⟩ = some (.int .u16 r07.c) ∧ (w9.alloc (.cells #[.bool false, .int .u16 0, .int .u8 0, .int .u8 0, .int .u16 0, .slice none 0 0] 45)).cell? ⟨g, 3, none⟩ = some (.int .u32 r07.l) ∧ (w9.alloc (.cells #[.bool false, .int .u16 0, .int .u8 0, .int .u8 0, .int .u16 0, .slice none 0 0] 45)).cell? ⟨g, 4, none⟩ = some (.string r07.d) := by
    obtain ⟨g, cap, hv, _, _, _, h4⟩ := K9.out.s.form (by omega)
    injection hv with hv _ _
    exact ⟨g, hv, h4 0 _ rfl, h4 1 _ rfl, h4 2 _ rfl, h4 3 _ rfl, h4 4 _ rfl⟩
  rw [hgE] at y5
  have eB := K9.out.e.belowS K9.out.c
  have x0 := eB.cell 0
  have x1 := eB.cell 1
  have x2 := eB.cell 2
  have x3 := eB.cell 3
  have x4 := eB.cell 4
  have x5 := eB.cell 5
  have z0 := K9.out.f.cell 0
  have z1 := K9.out.f.cell 1
  have z2 := K9.out.f.cell 2
  have z3 := K9.out.f.cell 3
  have z4 := K9.out.f.cell 4
  have z5 := K9.out.f.cell 5
  have q1 : r07.n.toList = [0] := n07
  have q2 : r07.t = 41 := rfl
  have q3 : r07.c = 1232 := rfl
  have q4 : r07.l = 16809984 := rfl
  have q5 : r07.d.toList = [0, 10, 0, 16, 49, 50, 51, 52, 53, 54, 55, 56, 97, 98, 99, 100, 101, 102, 103, 104] := d07l
  have q6 := c07l
  have q7 := s07l
  have HSM := Lib.hid (same_yes true 1232 1 0 32768 [o07] A1 A5 m1 m5 _ (K9.out.o.below K9.out.c) K9.out.op (by decide))
  have hl1 := eB.lt
  have hl3 := K9.out.m.lt
  have hl5 := K9.out.f.lt
  have HGE := Lib.hid hgE
  clear eB
  go_wp2_with (fail)
  refine HSM.out.mono ?_
  rintro e w10 ⟨rfl, hb10⟩
  have K10 := Lib.hid (K9.out.below hb10)
  have hB17 := (Blk.new w9 45 #[.bool false, .int .u16 0, .int .u8 0, .int .u8 0, .int .u16 0, .slice none 0 0]).belowS hb10
  have t0 := hB17.cell 0
  have eB := K10.out.e.belowS K10.out.c
  have x0 := eB.cell 0
  have x1 := eB.cell 1
  have x2 := eB.cell 2
  have x3 := eB.cell 3
  have x4 := eB.cell 4
  have x5 := eB.cell 5
  have y0 := K10.out.m.cell 0
  have y1 := K10.out.m.cell 1
  have y2 := K10.out.m.cell 2
  have y3 := K10.out.m.cell 3
  have y4 := K10.out.m.cell 4
  have y5 := K10.out.m.cell 5
  clear hB17 eB hb10 K9
  go_wp2_with (fail)
  with_reducible refine (code07 _ _ _ _ _ _ _ _ _ _ _).mono ?_
  rintro e w11 ⟨rfl, hb11⟩
  have K11 := Lib.hid (K10.out.below hb11)
  clear hb11 K10
  go_wp2_with (fail)
  go_ret
  exact ⟨rfl, K11.out.b.trans (K11.out.c.mono K11.out.b.size)⟩
end Go.Proofs.Ythjkdpphbipgfaa
