/- The walks of IndexFunc at queries, of first and Match. Conditions: none. Keys of places; the walks of Match and Add. Conditions: none. -/
import Derived.Test.YthjkdpphbipgfaaPendB
import Derived.Laws.Tables
import Derived.Laws.CopyOwn
import Derived.Maps.Views
import Derived.Maps.OwnOps
import Derived.Maps.Own
import Derived.Deep.QuietTactic
import Derived.BigQuiet
namespace Go.Proofs.Ythjkdpphbipgfaa
open Go.RowKit Go.Shelf Go.Lib

/-- What IndexFunc says: none, or the place of one that fits. -/
def IdxQ (m : MRec) (i p a : Int) (t : Bool) (xs : List QY) (w : World) (e : Ending) (w' : World) : Prop :=
  (e = .returned (.int .i64 (-1)) ∨ ∃ (k : Nat) (q : QY), xs[k]? = some q ∧ Fits m i p a t q ∧ e = .returned (.int .i64 (k : Int))) ∧ Below w.heap.size w w'
set_option maxHeartbeats 4000000 in
set_option maxRecDepth 100000 in
theorem indexQ_any (xs : List QY) (A : Option Addr) (c : Nat) (m : MRec) (i p a : Int) (t : Bool) (Bp Bm : Nat) (w : World)
    (hT : QYTab w A xs) (hok : ∀ q ∈ xs, q.Ok) (hbig : xs.length ≤ 1000) (hm : m.In w) (hmq : ∀ e ∈ m.q, e.n.size ≤ maxLen) (h1 : PlB w Bp i p a t) (h2 : MsgB w Bm m) :
    Calls Try.prog 98 #[.slice A xs.length c, .func (.func 68) #[] #[.pointer (some ⟨Bp, 0, none⟩), .pointer (some ⟨Bm, 0, none⟩)]] w (IdxQ m i p a t xs w) := by
  have HT := Lib.hid (And.intro hT hok)
  have HM := Lib.hid (fun (q : QY) (hq : q.Ok) W (hW : Below w.heap.size w W) => match1_any q m i p a t Bp Bm W hq (hm.below hW) hmq (Blk.below h1 hW h1.lt) (Blk.below h2 hW h2.lt))
  clear hT hok hm hmq h1 h2
  go_enter Try.func98, Try.ntmps98
  go_wp2
  go_loopg [5, 8] xs.length (fun gg _ s8 wr => ∃ kk : Nat, kk ≤ xs.length ∧ xs.length - kk ≤ gg ∧ s8 = .int .i64 kk ∧ Aside (Below w.heap.size w wr))
  case atStart => exact ⟨0, Nat.zero_le _, by omega, rfl, Below.refl _ w⟩
  case round =>
    obtain ⟨kk, hkk, hg, rfl, BW⟩ := hrel
    by_cases hlt : kk < xs.length
    · have hltz : (kk : Int) < (xs.length : Int) := by omega
      obtain ⟨e, he⟩ : ∃ e, xs[kk]? = some e := ⟨_, List.getElem?_eq_getElem hlt⟩
      obtain ⟨b, off, rfl, hbs, hc⟩ := (HT.out.1.below BW.out).cells he
      have c0 : wr.cell? ⟨b, off + kk * 10, none⟩ = some (.int .u16 e.i) := hc 0 _ rfl
      have c1 : wr.cell? ⟨b, off + kk * 10 + 1, none⟩ = some (.int .u16 e.p) := hc 1 _ rfl
      have c2 : wr.cell? ⟨b, off + kk * 10 + 2, none⟩ = some (.int .u32 e.a) := hc 2 _ rfl
      have c3 : wr.cell? ⟨b, off + kk * 10 + 3, none⟩ = some (.string e.n) := hc 3 _ rfl
      have c4 : wr.cell? ⟨b, off + kk * 10 + 4, none⟩ = some (.int .u16 e.ty) := hc 4 _ rfl
      have c5 : wr.cell? ⟨b, off + kk * 10 + 5, none⟩ = some (.int .u16 e.cl) := hc 5 _ rfl
      have c6 : wr.cell? ⟨b, off + kk * 10 + 6, none⟩ = some (.string e.ck) := hc 6 _ rfl
      have c7 : wr.cell? ⟨b, off + kk * 10 + 7, none⟩ = some (.bool e.tcp) := hc 7 _ rfl
      have c8 : wr.cell? ⟨b, off + kk * 10 + 8, none⟩ = some (.int .i64 e.du) := hc 8 _ rfl
      have c9 : wr.cell? ⟨b, off + kk * 10 + 9, none⟩ = some (.int .i64 e.ta) := hc 9 _ rfl
      have HCA := Lib.hid (HM.out e (HT.out.2 e (List.mem_of_getElem? he)) wr BW.out)
      unfold QY.val at HCA
      have HE := Lib.hid he
      have hsize := BW.out.size
      clear hc he
      go_wp2_with (fail)
      with_reducible refine HCA.out.mono ?_
      rintro e2 w' ⟨⟨bb, rfl, hbb⟩, hb'⟩
      have HB := Lib.hid (And.intro hbb (BW.out.trans (hb'.mono hsize)))
      clear hbb hb'
      cases bb with
      | true =>
        go_wp2_with (fail)
        go_ret
        exact ⟨.inr ⟨kk, e, HE.out, HB.out.1 (by trivial), rfl⟩, HB.out.2⟩
      | false =>
        go_wp2_with (fail)
        go_roundg (xs.length - (kk + 1))
        case measure => omega
        case rel => exact ⟨kk + 1, by omega, by omega, by go_num, HB.out.2⟩
    · obtain rfl : kk = xs.length := by omega
      clear hlt
      go_wp2
      go_ret
      exact ⟨.inl rfl, BW.out⟩
/-- The table in memory. -/
structure PT (w : World) (g mb : Nat) (A : Option Addr) (c : Nat) (xs : List QY) (n : Nat) : Prop where
  bx : Blk w g 115 #[.int .i64 64, .slice A xs.length c, .map (some mb)]
  it : Sl w 10 (.slice A xs.length c) xs.length (flatV QY.vs xs)
  mp : ∃ F : Lit → Option Value, MapV Try.prog 117 w mb n F ∧ ∀ k v, F k = some v → v = .int .i64 1
  ne : g ≠ mb ∧ ∀ q, (Value.slice A xs.length c).ownBlock = some q → q ≠ g ∧ q ≠ mb
  ok : ∀ q ∈ xs, q.Ok
  nb : n ≤ 64 ∧ xs.length ≤ n
def FirstP (m : MRec) (i p a : Int) (t : Bool) (w : World) (e : Ending) (w' : World) : Prop :=
  (∃ q : QY, e = .returned (.tuple #[q.val, .int .i64 3]) ∨ (Fits m i p a t q ∧ e = .returned (.tuple #[q.val, .int .i64 0]))) ∧ Below w.heap.size w w'
set_option maxHeartbeats 4000000 in
set_option maxRecDepth 100000 in
theorem first_any10 {w : World} {g mb n : Nat} {A : Option Addr} {c : Nat} {xs : List QY} (h : PT w g mb A c xs n) (m : MRec) (i p a : Int) (t : Bool) (Bp Bm : Nat) (hm : m.In w) (hmq : ∀ e ∈ m.q, e.n.size ≤ maxLen) (h1 : PlB w Bp i p a t) (h2 : MsgB w Bm m) :
    Calls Try.prog 67 #[.pointer (some ⟨g, 0, none⟩), .func (.func 68) #[] #[.pointer (some ⟨Bp, 0, none⟩), .pointer (some ⟨Bm, 0, none⟩)]] w (FirstP m i p a t w) := by
  have H := Lib.hid h
  have HT : QYTab w A xs := GTab.of_sl QY.ten h.it
  have HI := Lib.hid (fun W (hW : Below w.heap.size w W) => indexQ_any xs A c m i p a t Bp Bm W (HT.below hW) h.ok (by have := h.nb; omega) (hm.below hW) hmq (Blk.below h1 hW h1.lt) (Blk.below h2 hW h2.lt))
  have g1 := h.bx.cell 1
  have hgl := h.bx.lt
  clear h hm hmq h1 h2 HT
  go_enter Try.func67, Try.ntmps67
  go_wp2_with (fail)
  obtain ⟨V, hV⟩ : ∃ V, w.alloc (.cells #[.int .u16 0, .int .u16 0, .int .u32 0, .string ⟨#[]⟩, .int .u16 0, .int .u16 0, .string ⟨#[]⟩, .bool false, .int .i64 0, .int .i64 0] 65) = V := ⟨_, rfl⟩
  have HV := Lib.hid (show Below w.heap.size w V ∧ Blk V w.heap.size 65 #[.int .u16 0, .int .u16 0, .int .u32 0, .string ⟨#[]⟩, .int .u16 0, .int .u16 0, .string ⟨#[]⟩, .bool false, .int .i64 0, .int .i64 0] from by
    rw [← hV]; exact ⟨(Below.refl _ _).alloc (Nat.le_refl _) _, Blk.new _ _ _⟩)
  rw [hV]
  clear hV
  with_reducible refine (HI.out _ HV.out.1).mono ?_
  rintro e w2 ⟨hr, hb⟩
  have H2 := Lib.hid (And.intro (HV.out.2.below hb HV.out.2.lt) (HV.out.1.trans (hb.mono HV.out.1.size)))
  clear hb HI HV g1
  have g1 := (H.out.bx.below H2.out.2 H.out.bx.lt).cell 1
  rcases hr with rfl | ⟨k, q, hk, hf, rfl⟩
  · have r0 := H2.out.1.cell 0; have r1 := H2.out.1.cell 1; have r2 := H2.out.1.cell 2; have r3 := H2.out.1.cell 3; have r4 := H2.out.1.cell 4; have r5 := H2.out.1.cell 5; have r6 := H2.out.1.cell 6; have r7 := H2.out.1.cell 7; have r8 := H2.out.1.cell 8; have r9 := H2.out.1.cell 9
    have f0 := H2.out.1.frozen 0; have f1 := H2.out.1.frozen 1; have f2 := H2.out.1.frozen 2; have f3 := H2.out.1.frozen 3; have f4 := H2.out.1.frozen 4; have f5 := H2.out.1.frozen 5; have f6 := H2.out.1.frozen 6; have f7 := H2.out.1.frozen 7; have f8 := H2.out.1.frozen 8; have f9 := H2.out.1.frozen 9
    go_wp2_with (fail)
    have hB : Blk ((((((((((w2.setCell ⟨w.heap.size, 0, none⟩ (.int .u16 0)).setCell ⟨w.heap.size, 1, none⟩ (.int .u16 0)).setCell ⟨w.heap.size, 2, none⟩ (.int .u32 0)).setCell ⟨w.heap.size, 3, none⟩ (.string ⟨#[]⟩)).setCell ⟨w.heap.size, 4, none⟩ (.int .u16 0)).setCell ⟨w.heap.size, 5, none⟩ (.int .u16 0)).setCell ⟨w.heap.size, 6, none⟩ (.string ⟨#[]⟩)).setCell ⟨w.heap.size, 7, none⟩ (.bool false)).setCell ⟨w.heap.size, 8, none⟩ (.int .i64 0)).setCell ⟨w.heap.size, 9, none⟩ (.int .i64 0)) w.heap.size 65 #[.int .u16 0, .int .u16 0, .int .u32 0, .string ⟨#[]⟩, .int .u16 0, .int .u16 0, .string ⟨#[]⟩, .bool false, .int .i64 0, .int .i64 0] := by simpa using ((((((((((H2.out.1.set_ 0 (.int .u16 0)).set_ 1 (.int .u16 0)).set_ 2 (.int .u32 0)).set_ 3 (.string ⟨#[]⟩)).set_ 4 (.int .u16 0)).set_ 5 (.int .u16 0)).set_ 6 (.string ⟨#[]⟩)).set_ 7 (.bool false)).set_ 8 (.int .i64 0)).set_ 9 (.int .i64 0))
    have hb3 : Below w.heap.size w ((((((((((w2.setCell ⟨w.heap.size, 0, none⟩ (.int .u16 0)).setCell ⟨w.heap.size, 1, none⟩ (.int .u16 0)).setCell ⟨w.heap.size, 2, none⟩ (.int .u32 0)).setCell ⟨w.heap.size, 3, none⟩ (.string ⟨#[]⟩)).setCell ⟨w.heap.size, 4, none⟩ (.int .u16 0)).setCell ⟨w.heap.size, 5, none⟩ (.int .u16 0)).setCell ⟨w.heap.size, 6, none⟩ (.string ⟨#[]⟩)).setCell ⟨w.heap.size, 7, none⟩ (.bool false)).setCell ⟨w.heap.size, 8, none⟩ (.int .i64 0)).setCell ⟨w.heap.size, 9, none⟩ (.int .i64 0)) := ((((((((((H2.out.2.setCell (p := ⟨w.heap.size, 0, none⟩) (Nat.le_refl _) (.int .u16 0)).setCell (p := ⟨w.heap.size, 1, none⟩) (Nat.le_refl _) (.int .u16 0)).setCell (p := ⟨w.heap.size, 2, none⟩) (Nat.le_refl _) (.int .u32 0)).setCell (p := ⟨w.heap.size, 3, none⟩) (Nat.le_refl _) (.string ⟨#[]⟩)).setCell (p := ⟨w.heap.size, 4, none⟩) (Nat.le_refl _) (.int .u16 0)).setCell (p := ⟨w.heap.size, 5, none⟩) (Nat.le_refl _) (.int .u16 0)).setCell (p := ⟨w.heap.size, 6, none⟩) (Nat.le_refl _) (.string ⟨#[]⟩)).setCell (p := ⟨w.heap.size, 7, none⟩) (Nat.le_refl _) (.bool false)).setCell (p := ⟨w.heap.size, 8, none⟩) (Nat.le_refl _) (.int .i64 0)).setCell (p := ⟨w.heap.size, 9, none⟩) (Nat.le_refl _) (.int .i64 0))
    clear r0 r1 r2 r3 r4 r5 r6 r7 r8 r9 f0 f1 f2 f3 f4 f5 f6 f7 f8 f9
    obtain ⟨W3, hW3⟩ : ∃ W3, ((((((((((w2.setCell ⟨w.heap.size, 0, none⟩ (.int .u16 0)).setCell ⟨w.heap.size, 1, none⟩ (.int .u16 0)).setCell ⟨w.heap.size, 2, none⟩ (.int .u32 0)).setCell ⟨w.heap.size, 3, none⟩ (.string ⟨#[]⟩)).setCell ⟨w.heap.size, 4, none⟩ (.int .u16 0)).setCell ⟨w.heap.size, 5, none⟩ (.int .u16 0)).setCell ⟨w.heap.size, 6, none⟩ (.string ⟨#[]⟩)).setCell ⟨w.heap.size, 7, none⟩ (.bool false)).setCell ⟨w.heap.size, 8, none⟩ (.int .i64 0)).setCell ⟨w.heap.size, 9, none⟩ (.int .i64 0)) = W3 := ⟨_, rfl⟩
    rw [hW3] at hB hb3 ⊢
    have r0 := hB.cell 0; have r1 := hB.cell 1; have r2 := hB.cell 2; have r3 := hB.cell 3; have r4 := hB.cell 4; have r5 := hB.cell 5; have r6 := hB.cell 6; have r7 := hB.cell 7; have r8 := hB.cell 8; have r9 := hB.cell 9
    exact bodyPost_ret (v := .tuple #[.agg #[.int .u16 0, .int .u16 0, .int .u32 0, .string ⟨#[]⟩, .int .u16 0, .int .u16 0, .string ⟨#[]⟩, .bool false, .int .i64 0, .int .i64 0], .int .i64 3]) (by simp [results, Try.results67, go_sem, r0, r1, r2, r3, r4, r5, r6, r7, r8, r9]) rfl ⟨⟨⟨0, 0, 0, ⟨#[]⟩, 0, 0, ⟨#[]⟩, false, 0, 0⟩, .inl rfl⟩, hb3⟩
  · have HK := Lib.hid (And.intro hk hf)
    have hkl := (List.getElem?_eq_some_iff.1 hk).1
    have hkI : (k : Int) < (xs.length : Int) := by omega
    have hxI : (xs.length : Int) ≤ 64 := by have := H.out.nb; omega
    have HT : QYTab w2 A xs := (show QYTab w A xs from GTab.of_sl QY.ten H.out.it).below H2.out.2
    obtain ⟨b, off, rfl, hbl, hc⟩ := HT.cells hk
    have hne : b ≠ w.heap.size := by
      have := (show QYTab w (some ⟨b, off, none⟩) xs from GTab.of_sl QY.ten H.out.it).cells hk
      obtain ⟨b', off', e, hb', _⟩ := this
      injection e with e
      injection e with e
      omega
    have c0 : w2.cell? ⟨b, off + k * 10, none⟩ = some (.int .u16 q.i) := hc 0 _ rfl
    have c1 : w2.cell? ⟨b, off + k * 10 + 1, none⟩ = some (.int .u16 q.p) := hc 1 _ rfl
    have c2 : w2.cell? ⟨b, off + k * 10 + 2, none⟩ = some (.int .u32 q.a) := hc 2 _ rfl
    have c3 : w2.cell? ⟨b, off + k * 10 + 3, none⟩ = some (.string q.n) := hc 3 _ rfl
    have c4 : w2.cell? ⟨b, off + k * 10 + 4, none⟩ = some (.int .u16 q.ty) := hc 4 _ rfl
    have c5 : w2.cell? ⟨b, off + k * 10 + 5, none⟩ = some (.int .u16 q.cl) := hc 5 _ rfl
    have c6 : w2.cell? ⟨b, off + k * 10 + 6, none⟩ = some (.string q.ck) := hc 6 _ rfl
    have c7 : w2.cell? ⟨b, off + k * 10 + 7, none⟩ = some (.bool q.tcp) := hc 7 _ rfl
    have c8 : w2.cell? ⟨b, off + k * 10 + 8, none⟩ = some (.int .i64 q.du) := hc 8 _ rfl
    have c9 : w2.cell? ⟨b, off + k * 10 + 9, none⟩ = some (.int .i64 q.ta) := hc 9 _ rfl
    clear hk hf hc HT hkl
    have r0 := H2.out.1.cell 0; have r1 := H2.out.1.cell 1; have r2 := H2.out.1.cell 2; have r3 := H2.out.1.cell 3; have r4 := H2.out.1.cell 4; have r5 := H2.out.1.cell 5; have r6 := H2.out.1.cell 6; have r7 := H2.out.1.cell 7; have r8 := H2.out.1.cell 8; have r9 := H2.out.1.cell 9
    have f0 := H2.out.1.frozen 0; have f1 := H2.out.1.frozen 1; have f2 := H2.out.1.frozen 2; have f3 := H2.out.1.frozen 3; have f4 := H2.out.1.frozen 4; have f5 := H2.out.1.frozen 5; have f6 := H2.out.1.frozen 6; have f7 := H2.out.1.frozen 7; have f8 := H2.out.1.frozen 8; have f9 := H2.out.1.frozen 9
    go_wp2_with (fail)
    have hB : Blk ((((((((((w2.setCell ⟨w.heap.size, 0, none⟩ (.int .u16 q.i)).setCell ⟨w.heap.size, 1, none⟩ (.int .u16 q.p)).setCell ⟨w.heap.size, 2, none⟩ (.int .u32 q.a)).setCell ⟨w.heap.size, 3, none⟩ (.string q.n)).setCell ⟨w.heap.size, 4, none⟩ (.int .u16 q.ty)).setCell ⟨w.heap.size, 5, none⟩ (.int .u16 q.cl)).setCell ⟨w.heap.size, 6, none⟩ (.string q.ck)).setCell ⟨w.heap.size, 7, none⟩ (.bool q.tcp)).setCell ⟨w.heap.size, 8, none⟩ (.int .i64 q.du)).setCell ⟨w.heap.size, 9, none⟩ (.int .i64 q.ta)) w.heap.size 65 #[.int .u16 q.i, .int .u16 q.p, .int .u32 q.a, .string q.n, .int .u16 q.ty, .int .u16 q.cl, .string q.ck, .bool q.tcp, .int .i64 q.du, .int .i64 q.ta] := by simpa using ((((((((((H2.out.1.set_ 0 (.int .u16 q.i)).set_ 1 (.int .u16 q.p)).set_ 2 (.int .u32 q.a)).set_ 3 (.string q.n)).set_ 4 (.int .u16 q.ty)).set_ 5 (.int .u16 q.cl)).set_ 6 (.string q.ck)).set_ 7 (.bool q.tcp)).set_ 8 (.int .i64 q.du)).set_ 9 (.int .i64 q.ta))
    have hb3 : Below w.heap.size w ((((((((((w2.setCell ⟨w.heap.size, 0, none⟩ (.int .u16 q.i)).setCell ⟨w.heap.size, 1, none⟩ (.int .u16 q.p)).setCell ⟨w.heap.size, 2, none⟩ (.int .u32 q.a)).setCell ⟨w.heap.size, 3, none⟩ (.string q.n)).setCell ⟨w.heap.size, 4, none⟩ (.int .u16 q.ty)).setCell ⟨w.heap.size, 5, none⟩ (.int .u16 q.cl)).setCell ⟨w.heap.size, 6, none⟩ (.string q.ck)).setCell ⟨w.heap.size, 7, none⟩ (.bool q.tcp)).setCell ⟨w.heap.size, 8, none⟩ (.int .i64 q.du)).setCell ⟨w.heap.size, 9, none⟩ (.int .i64 q.ta)) := ((((((((((H2.out.2.setCell (p := ⟨w.heap.size, 0, none⟩) (Nat.le_refl _) (.int .u16 q.i)).setCell (p := ⟨w.heap.size, 1, none⟩) (Nat.le_refl _) (.int .u16 q.p)).setCell (p := ⟨w.heap.size, 2, none⟩) (Nat.le_refl _) (.int .u32 q.a)).setCell (p := ⟨w.heap.size, 3, none⟩) (Nat.le_refl _) (.string q.n)).setCell (p := ⟨w.heap.size, 4, none⟩) (Nat.le_refl _) (.int .u16 q.ty)).setCell (p := ⟨w.heap.size, 5, none⟩) (Nat.le_refl _) (.int .u16 q.cl)).setCell (p := ⟨w.heap.size, 6, none⟩) (Nat.le_refl _) (.string q.ck)).setCell (p := ⟨w.heap.size, 7, none⟩) (Nat.le_refl _) (.bool q.tcp)).setCell (p := ⟨w.heap.size, 8, none⟩) (Nat.le_refl _) (.int .i64 q.du)).setCell (p := ⟨w.heap.size, 9, none⟩) (Nat.le_refl _) (.int .i64 q.ta))
    clear r0 r1 r2 r3 r4 r5 r6 r7 r8 r9 f0 f1 f2 f3 f4 f5 f6 f7 f8 f9
    obtain ⟨W3, hW3⟩ : ∃ W3, ((((((((((w2.setCell ⟨w.heap.size, 0, none⟩ (.int .u16 q.i)).setCell ⟨w.heap.size, 1, none⟩ (.int .u16 q.p)).setCell ⟨w.heap.size, 2, none⟩ (.int .u32 q.a)).setCell ⟨w.heap.size, 3, none⟩ (.string q.n)).setCell ⟨w.heap.size, 4, none⟩ (.int .u16 q.ty)).setCell ⟨w.heap.size, 5, none⟩ (.int .u16 q.cl)).setCell ⟨w.heap.size, 6, none⟩ (.string q.ck)).setCell ⟨w.heap.size, 7, none⟩ (.bool q.tcp)).setCell ⟨w.heap.size, 8, none⟩ (.int .i64 q.du)).setCell ⟨w.heap.size, 9, none⟩ (.int .i64 q.ta)) = W3 := ⟨_, rfl⟩
    rw [hW3] at hB hb3 ⊢
    have r0 := hB.cell 0; have r1 := hB.cell 1; have r2 := hB.cell 2; have r3 := hB.cell 3; have r4 := hB.cell 4; have r5 := hB.cell 5; have r6 := hB.cell 6; have r7 := hB.cell 7; have r8 := hB.cell 8; have r9 := hB.cell 9
    exact bodyPost_ret (v := .tuple #[.agg #[.int .u16 q.i, .int .u16 q.p, .int .u32 q.a, .string q.n, .int .u16 q.ty, .int .u16 q.cl, .string q.ck, .bool q.tcp, .int .i64 q.du, .int .i64 q.ta], .int .i64 0]) (by simp [results, Try.results67, go_sem, r0, r1, r2, r3, r4, r5, r6, r7, r8, r9]) rfl ⟨⟨q, .inr ⟨HK.out.2, rfl⟩⟩, hb3⟩
end Go.Proofs.Ythjkdpphbipgfaa

namespace Go.Proofs.Ythjkdpphbipgfaa
open Go.RowKit Go.Shelf Go.Lib

theorem laidOutQ : laidOutB Try.prog = true := by kernel_rfl
theorem types_manyQ : ∃ m, Try.prog.types.size = m + 2 := by
  have h : (2 ≤ Try.prog.types.size) := of_decide_eq_true (by kernel_rfl)
  exact ⟨Try.prog.types.size - 2, by omega⟩
theorem place_keyType : Try.prog.keyType 117 = true := by kernel_rfl
theorem place_keyTypeAt : Try.prog.keyTypeAt 3 117 = true := by kernel_rfl
theorem place_cells : Try.prog.cellsOf 117 = 4 := by kernel_rfl
theorem u16_cellsQ : Try.prog.cellsOf 22 = 1 := by kernel_rfl
theorem u32_cellsQ : Try.prog.cellsOf 28 = 1 := by kernel_rfl
theorem bool_cellsQ : Try.prog.cellsOf 4 = 1 := by kernel_rfl
theorem place_keyed : Maps.Keyed Try.prog 117 :=
  Maps.Keyed.of_law (deep_law_laid laidOutQ (m := 3) (by decide) (of_decide_eq_true (by kernel_rfl)) place_keyTypeAt (by kernel_rfl))
theorem wf16 {x : Int} (h : 0 ≤ x ∧ x ≤ 65535) : (Lit.int .u16 x).wf = true := by
  simp [Lit.wf, IntKind.min, IntKind.max, IntKind.signed, IntKind.bits]; omega
theorem wf32q {x : Int} (h : 0 ≤ x ∧ x ≤ 4294967295) : (Lit.int .u32 x).wf = true := by
  simp [Lit.wf, IntKind.min, IntKind.max, IntKind.signed, IntKind.bits]; omega
theorem keyOf_place (i p a : Int) (t : Bool) (hi : 0 ≤ i ∧ i ≤ 65535) (hp : 0 ≤ p ∧ p ≤ 65535) (ha : 0 ≤ a ∧ a ≤ 4294967295) : ∃ kl, keyOf Try.prog 117 (.agg #[.int .u16 i, .int .u16 p, .int .u32 a, .bool t]) = some kl ∧ WideAt.IsKeyLit kl ∧ kl.sameKey kl = true := by
  obtain ⟨m, hm⟩ := types_manyQ
  have h1 := wf16 hi
  have h2 := wf16 hp
  have h3 := wf32q ha
  refine ⟨.string (keyBytes [.int .u16 i, .int .u16 p, .int .u32 a, .bool t]), ?_, trivial, by simp [Lit.sameKey]⟩
  unfold keyOf
  rw [Try.underlying117, place_keyType, hm]
  simp [Value.formed, Try.underlying117, place_cells, Program.keyLits, u16_cellsQ, u32_cellsQ, bool_cellsQ, Try.underlying22, Try.underlying28, Try.underlying4, Value.cells, h1, h2, h3]
theorem PT.below {w w' : World} {g mb n : Nat} {A : Option Addr} {c : Nat} {xs : List QY} (h : PT w g mb A c xs n) (hb : Below w.heap.size w w') : PT w' g mb A c xs n := by
  obtain ⟨F, m1, m2⟩ := h.mp
  exact ⟨h.bx.below hb h.bx.lt, h.it.below hb h.it.lt, ⟨F, m1.below hb m1.lt, m2⟩, h.ne, h.ok, h.nb⟩
/-- What the map says of a place. -/
theorem PT.look {w : World} {g mb n : Nat} {A : Option Addr} {c : Nat} {xs : List QY} (h : PT w g mb A c xs n) {i p a : Int} {t : Bool} (hi : 0 ≤ i ∧ i ≤ 65535) (hp : 0 ≤ p ∧ p ≤ 65535) (ha : 0 ≤ a ∧ a ≤ 4294967295) :
    ∃ z : Int, (z = 0 ∨ z = 1) ∧ ∀ W, Below w.heap.size w W → (Instr.lookup 113 (.map (some mb)) (.agg #[.int .u16 i, .int .u16 p, .int .u32 a, .bool t]) false).run Try.prog W = .ok (.int .i64 z) W := by
  obtain ⟨F, m1, m2⟩ := h.mp
  obtain ⟨kl, hk, _⟩ := keyOf_place i p a t hi hp ha
  cases hF : F kl with
  | none =>
    refine ⟨0, .inl rfl, fun W hW => ?_⟩
    have := (m1.below hW m1.lt).look place_keyed Try.underlying113 (zero_int2 W) hk
    rw [hF] at this
    exact this
  | some v =>
    have hv := m2 kl v hF
    subst hv
    refine ⟨1, .inr rfl, fun W hW => ?_⟩
    have := (m1.below hW m1.lt).look place_keyed Try.underlying113 (zero_int2 W) hk
    rw [hF] at this
    exact this
set_option maxHeartbeats 4000000 in
set_option maxRecDepth 100000 in
theorem match_any {w : World} {g mb n : Nat} {A : Option Addr} {c : Nat} {xs : List QY} (h : PT w g mb A c xs n) (m : MRec) (p a : Int) (t : Bool) (hi : 0 ≤ m.id ∧ m.id ≤ 65535) (hp : 0 ≤ p ∧ p ≤ 65535) (ha : 0 ≤ a ∧ a ≤ 4294967295) (hm : m.In w) (hmq : ∀ e ∈ m.q, e.n.size ≤ maxLen) :
    Calls Try.prog 32 #[.pointer (some ⟨g, 0, none⟩), .int .u32 a, .int .u16 p, .bool t, m.val] w (FirstP m m.id p a t w) := by
  obtain ⟨z, _, hz⟩ := h.look (t := t) hi hp ha
  have HLK := Lib.hid hz
  have H := Lib.hid h
  have HM := Lib.hid (And.intro hm hmq)
  have hgl := h.bx.lt
  clear h hz hm hmq
  dsimp only [MRec.val]
  go_enter Try.func32, Try.ntmps32
  go_wp2_with (fail)
  obtain ⟨V, hV⟩ : ∃ V, ((w.alloc (.cells #[.int .u16 m.id, .int .u16 m.bi, .slice m.qA m.q.length m.qc, .slice m.sA m.s.length m.sc, .slice m.hA m.h.length m.hc, .slice m.eA m.e.length m.ec] 26)).alloc (.cells #[.int .u16 0, .int .u16 0, .int .u32 0, .string ⟨#[]⟩, .int .u16 0, .int .u16 0, .string ⟨#[]⟩, .bool false, .int .i64 0, .int .i64 0] 65)).alloc (.cells #[.int .u16 m.id, .int .u16 p, .int .u32 a, .bool t] 117) = V := ⟨_, rfl⟩
  have HV := Lib.hid (show Below w.heap.size w V ∧ MsgB V w.heap.size m ∧ Blk V (w.heap.size + 1) 65 #[.int .u16 0, .int .u16 0, .int .u32 0, .string ⟨#[]⟩, .int .u16 0, .int .u16 0, .string ⟨#[]⟩, .bool false, .int .i64 0, .int .i64 0] ∧ PlB V (w.heap.size + 1 + 1) m.id p a t from by
    rw [← hV]
    have h1 := Blk.new (w.alloc (.cells #[.int .u16 m.id, .int .u16 m.bi, .slice m.qA m.q.length m.qc, .slice m.sA m.s.length m.sc, .slice m.hA m.h.length m.hc, .slice m.eA m.e.length m.ec] 26)) 65 #[.int .u16 0, .int .u16 0, .int .u32 0, .string ⟨#[]⟩, .int .u16 0, .int .u16 0, .string ⟨#[]⟩, .bool false, .int .i64 0, .int .i64 0]
    have h2 := Blk.new ((w.alloc (.cells #[.int .u16 m.id, .int .u16 m.bi, .slice m.qA m.q.length m.qc, .slice m.sA m.s.length m.sc, .slice m.hA m.h.length m.hc, .slice m.eA m.e.length m.ec] 26)).alloc (.cells #[.int .u16 0, .int .u16 0, .int .u32 0, .string ⟨#[]⟩, .int .u16 0, .int .u16 0, .string ⟨#[]⟩, .bool false, .int .i64 0, .int .i64 0] 65)) 117 #[.int .u16 m.id, .int .u16 p, .int .u32 a, .bool t]
    rw [World.size_alloc] at h1 h2
    rw [World.size_alloc] at h2
    exact ⟨(((Below.refl _ _).alloc (Nat.le_refl _) _).alloc (by simp) _).alloc (by simp; omega) _, ((Blk.new w _ _).alloc _).alloc _, h1.alloc _, h2⟩)
  rw [hV]
  clear hV
  have H1 := Lib.hid (H.out.below HV.out.1)
  have g2 := H1.out.bx.cell 2
  have y0 := HV.out.2.2.2.cell 0
  have y1 := HV.out.2.2.2.cell 1
  have y2 := HV.out.2.2.2.cell 2
  have y3 := HV.out.2.2.2.cell 3
  have hL : ∀ k, (Instr.lookup 113 (.map (some mb)) (.agg #[.int .u16 m.id, .int .u16 p, .int .u32 a, .bool t]) false).run Try.prog (V.drewN k) = .ok (.int .i64 z) (V.drewN k) := fun k => HLK.out _ (HV.out.1.trans ((below_drewN (Below.refl _ _) k).mono HV.out.1.size))
  have hL0 : (Instr.lookup 113 (.map (some mb)) (.agg #[.int .u16 m.id, .int .u16 p, .int .u32 a, .bool t]) false).run Try.prog V = .ok (.int .i64 z) V := HLK.out _ HV.out.1
  by_cases hz0 : z = 0
  · have e0 : (z == 0) = true := by simp [hz0]
    clear hz0
    go_quiet (fail)
    obtain ⟨W, hW⟩ : ∃ W, V.drewN nq = W := ⟨_, rfl⟩
    have hVW : Below V.heap.size V W := by rw [← hW]; exact below_drewN (Below.refl _ _) nq
    rw [hW]
    have H2 := Lib.hid (show Below w.heap.size w W ∧ Blk W (w.heap.size + 1) 65 #[.int .u16 0, .int .u16 0, .int .u32 0, .string ⟨#[]⟩, .int .u16 0, .int .u16 0, .string ⟨#[]⟩, .bool false, .int .i64 0, .int .i64 0] ∧ PT W g mb A c xs n ∧ PlB W (w.heap.size + 1 + 1) m.id p a t ∧ MsgB W w.heap.size m from ⟨HV.out.1.trans (hVW.mono HV.out.1.size), HV.out.2.2.1.below hVW HV.out.2.2.1.lt, H1.out.below hVW, HV.out.2.2.2.below hVW HV.out.2.2.2.lt, HV.out.2.1.below hVW HV.out.2.1.lt⟩)
    clear hW hVW HV H1 g2 y0 y1 y2 y3 hL hL0
    have r0 := H2.out.2.1.cell 0; have r1 := H2.out.2.1.cell 1; have r2 := H2.out.2.1.cell 2; have r3 := H2.out.2.1.cell 3; have r4 := H2.out.2.1.cell 4; have r5 := H2.out.2.1.cell 5; have r6 := H2.out.2.1.cell 6; have r7 := H2.out.2.1.cell 7; have r8 := H2.out.2.1.cell 8; have r9 := H2.out.2.1.cell 9
    have f0 := H2.out.2.1.frozen 0; have f1 := H2.out.2.1.frozen 1; have f2 := H2.out.2.1.frozen 2; have f3 := H2.out.2.1.frozen 3; have f4 := H2.out.2.1.frozen 4; have f5 := H2.out.2.1.frozen 5; have f6 := H2.out.2.1.frozen 6; have f7 := H2.out.2.1.frozen 7; have f8 := H2.out.2.1.frozen 8; have f9 := H2.out.2.1.frozen 9
    go_wp2_with (fail)
    have hB : Blk ((((((((((W.setCell ⟨w.heap.size + 1, 0, none⟩ (.int .u16 0)).setCell ⟨w.heap.size + 1, 1, none⟩ (.int .u16 0)).setCell ⟨w.heap.size + 1, 2, none⟩ (.int .u32 0)).setCell ⟨w.heap.size + 1, 3, none⟩ (.string ⟨#[]⟩)).setCell ⟨w.heap.size + 1, 4, none⟩ (.int .u16 0)).setCell ⟨w.heap.size + 1, 5, none⟩ (.int .u16 0)).setCell ⟨w.heap.size + 1, 6, none⟩ (.string ⟨#[]⟩)).setCell ⟨w.heap.size + 1, 7, none⟩ (.bool false)).setCell ⟨w.heap.size + 1, 8, none⟩ (.int .i64 0)).setCell ⟨w.heap.size + 1, 9, none⟩ (.int .i64 0)) (w.heap.size + 1) 65 #[.int .u16 0, .int .u16 0, .int .u32 0, .string ⟨#[]⟩, .int .u16 0, .int .u16 0, .string ⟨#[]⟩, .bool false, .int .i64 0, .int .i64 0] := by simpa using ((((((((((H2.out.2.1.set_ 0 (.int .u16 0)).set_ 1 (.int .u16 0)).set_ 2 (.int .u32 0)).set_ 3 (.string ⟨#[]⟩)).set_ 4 (.int .u16 0)).set_ 5 (.int .u16 0)).set_ 6 (.string ⟨#[]⟩)).set_ 7 (.bool false)).set_ 8 (.int .i64 0)).set_ 9 (.int .i64 0))
    have hb3 : Below w.heap.size w ((((((((((W.setCell ⟨w.heap.size + 1, 0, none⟩ (.int .u16 0)).setCell ⟨w.heap.size + 1, 1, none⟩ (.int .u16 0)).setCell ⟨w.heap.size + 1, 2, none⟩ (.int .u32 0)).setCell ⟨w.heap.size + 1, 3, none⟩ (.string ⟨#[]⟩)).setCell ⟨w.heap.size + 1, 4, none⟩ (.int .u16 0)).setCell ⟨w.heap.size + 1, 5, none⟩ (.int .u16 0)).setCell ⟨w.heap.size + 1, 6, none⟩ (.string ⟨#[]⟩)).setCell ⟨w.heap.size + 1, 7, none⟩ (.bool false)).setCell ⟨w.heap.size + 1, 8, none⟩ (.int .i64 0)).setCell ⟨w.heap.size + 1, 9, none⟩ (.int .i64 0)) := ((((((((((H2.out.1.setCell (p := ⟨w.heap.size + 1, 0, none⟩) (Nat.le_succ _) (.int .u16 0)).setCell (p := ⟨w.heap.size + 1, 1, none⟩) (Nat.le_succ _) (.int .u16 0)).setCell (p := ⟨w.heap.size + 1, 2, none⟩) (Nat.le_succ _) (.int .u32 0)).setCell (p := ⟨w.heap.size + 1, 3, none⟩) (Nat.le_succ _) (.string ⟨#[]⟩)).setCell (p := ⟨w.heap.size + 1, 4, none⟩) (Nat.le_succ _) (.int .u16 0)).setCell (p := ⟨w.heap.size + 1, 5, none⟩) (Nat.le_succ _) (.int .u16 0)).setCell (p := ⟨w.heap.size + 1, 6, none⟩) (Nat.le_succ _) (.string ⟨#[]⟩)).setCell (p := ⟨w.heap.size + 1, 7, none⟩) (Nat.le_succ _) (.bool false)).setCell (p := ⟨w.heap.size + 1, 8, none⟩) (Nat.le_succ _) (.int .i64 0)).setCell (p := ⟨w.heap.size + 1, 9, none⟩) (Nat.le_succ _) (.int .i64 0))
    clear r0 r1 r2 r3 r4 r5 r6 r7 r8 r9 f0 f1 f2 f3 f4 f5 f6 f7 f8 f9
    obtain ⟨W3, hW3⟩ : ∃ W3, ((((((((((W.setCell ⟨w.heap.size + 1, 0, none⟩ (.int .u16 0)).setCell ⟨w.heap.size + 1, 1, none⟩ (.int .u16 0)).setCell ⟨w.heap.size + 1, 2, none⟩ (.int .u32 0)).setCell ⟨w.heap.size + 1, 3, none⟩ (.string ⟨#[]⟩)).setCell ⟨w.heap.size + 1, 4, none⟩ (.int .u16 0)).setCell ⟨w.heap.size + 1, 5, none⟩ (.int .u16 0)).setCell ⟨w.heap.size + 1, 6, none⟩ (.string ⟨#[]⟩)).setCell ⟨w.heap.size + 1, 7, none⟩ (.bool false)).setCell ⟨w.heap.size + 1, 8, none⟩ (.int .i64 0)).setCell ⟨w.heap.size + 1, 9, none⟩ (.int .i64 0)) = W3 := ⟨_, rfl⟩
    rw [hW3] at hB hb3 ⊢
    have r0 := hB.cell 0; have r1 := hB.cell 1; have r2 := hB.cell 2; have r3 := hB.cell 3; have r4 := hB.cell 4; have r5 := hB.cell 5; have r6 := hB.cell 6; have r7 := hB.cell 7; have r8 := hB.cell 8; have r9 := hB.cell 9
    exact bodyPost_ret (v := .tuple #[.agg #[.int .u16 0, .int .u16 0, .int .u32 0, .string ⟨#[]⟩, .int .u16 0, .int .u16 0, .string ⟨#[]⟩, .bool false, .int .i64 0, .int .i64 0], .int .i64 3]) (by simp [results, Try.results32, go_sem, r0, r1, r2, r3, r4, r5, r6, r7, r8, r9]) rfl ⟨⟨⟨0, 0, 0, ⟨#[]⟩, 0, 0, ⟨#[]⟩, false, 0, 0⟩, .inl rfl⟩, hb3⟩
  · have e0 : (z == 0) = false := by simp [hz0]
    clear hz0
    go_quiet (fail)
    obtain ⟨W, hW⟩ : ∃ W, V.drewN nq = W := ⟨_, rfl⟩
    have hVW : Below V.heap.size V W := by rw [← hW]; exact below_drewN (Below.refl _ _) nq
    rw [hW]
    have H2 := Lib.hid (show Below w.heap.size w W ∧ Blk W (w.heap.size + 1) 65 #[.int .u16 0, .int .u16 0, .int .u32 0, .string ⟨#[]⟩, .int .u16 0, .int .u16 0, .string ⟨#[]⟩, .bool false, .int .i64 0, .int .i64 0] ∧ PT W g mb A c xs n ∧ PlB W (w.heap.size + 1 + 1) m.id p a t ∧ MsgB W w.heap.size m from ⟨HV.out.1.trans (hVW.mono HV.out.1.size), HV.out.2.2.1.below hVW HV.out.2.2.1.lt, H1.out.below hVW, HV.out.2.2.2.below hVW HV.out.2.2.2.lt, HV.out.2.1.below hVW HV.out.2.1.lt⟩)
    clear hW hVW HV H1 g2 y0 y1 y2 y3 hL hL0
    have HF := Lib.hid (first_any10 H2.out.2.2.1 m m.id p a t (w.heap.size + 1 + 1) w.heap.size (HM.out.1.below H2.out.1) HM.out.2 H2.out.2.2.2.1 H2.out.2.2.2.2)
    go_wp2_with (fail)
    with_reducible refine HF.out.mono ?_
    rintro e w2 ⟨⟨q, hq⟩, hb⟩
    have H3 := Lib.hid (And.intro (H2.out.1.trans (hb.mono H2.out.1.size)) (And.intro (H2.out.2.1.below hb H2.out.2.1.lt) (show True from trivial)))
    clear hb HF H2
    have r0 := H3.out.2.1.cell 0; have r1 := H3.out.2.1.cell 1; have r2 := H3.out.2.1.cell 2; have r3 := H3.out.2.1.cell 3; have r4 := H3.out.2.1.cell 4; have r5 := H3.out.2.1.cell 5; have r6 := H3.out.2.1.cell 6; have r7 := H3.out.2.1.cell 7; have r8 := H3.out.2.1.cell 8; have r9 := H3.out.2.1.cell 9
    have f0 := H3.out.2.1.frozen 0; have f1 := H3.out.2.1.frozen 1; have f2 := H3.out.2.1.frozen 2; have f3 := H3.out.2.1.frozen 3; have f4 := H3.out.2.1.frozen 4; have f5 := H3.out.2.1.frozen 5; have f6 := H3.out.2.1.frozen 6; have f7 := H3.out.2.1.frozen 7; have f8 := H3.out.2.1.frozen 8; have f9 := H3.out.2.1.frozen 9
    rcases hq with rfl | ⟨hf, rfl⟩
    · unfold QY.val
      go_wp2_with (fail)
      have hB : Blk ((((((((((w2.setCell ⟨w.heap.size + 1, 0, none⟩ (.int .u16 q.i)).setCell ⟨w.heap.size + 1, 1, none⟩ (.int .u16 q.p)).setCell ⟨w.heap.size + 1, 2, none⟩ (.int .u32 q.a)).setCell ⟨w.heap.size + 1, 3, none⟩ (.string q.n)).setCell ⟨w.heap.size + 1, 4, none⟩ (.int .u16 q.ty)).setCell ⟨w.heap.size + 1, 5, none⟩ (.int .u16 q.cl)).setCell ⟨w.heap.size + 1, 6, none⟩ (.string q.ck)).setCell ⟨w.heap.size + 1, 7, none⟩ (.bool q.tcp)).setCell ⟨w.heap.size + 1, 8, none⟩ (.int .i64 q.du)).setCell ⟨w.heap.size + 1, 9, none⟩ (.int .i64 q.ta)) (w.heap.size + 1) 65 #[.int .u16 q.i, .int .u16 q.p, .int .u32 q.a, .string q.n, .int .u16 q.ty, .int .u16 q.cl, .string q.ck, .bool q.tcp, .int .i64 q.du, .int .i64 q.ta] := by simpa using ((((((((((H3.out.2.1.set_ 0 (.int .u16 q.i)).set_ 1 (.int .u16 q.p)).set_ 2 (.int .u32 q.a)).set_ 3 (.string q.n)).set_ 4 (.int .u16 q.ty)).set_ 5 (.int .u16 q.cl)).set_ 6 (.string q.ck)).set_ 7 (.bool q.tcp)).set_ 8 (.int .i64 q.du)).set_ 9 (.int .i64 q.ta))
      have hb3 : Below w.heap.size w ((((((((((w2.setCell ⟨w.heap.size + 1, 0, none⟩ (.int .u16 q.i)).setCell ⟨w.heap.size + 1, 1, none⟩ (.int .u16 q.p)).setCell ⟨w.heap.size + 1, 2, none⟩ (.int .u32 q.a)).setCell ⟨w.heap.size + 1, 3, none⟩ (.string q.n)).setCell ⟨w.heap.size + 1, 4, none⟩ (.int .u16 q.ty)).setCell ⟨w.heap.size + 1, 5, none⟩ (.int .u16 q.cl)).setCell ⟨w.heap.size + 1, 6, none⟩ (.string q.ck)).setCell ⟨w.heap.size + 1, 7, none⟩ (.bool q.tcp)).setCell ⟨w.heap.size + 1, 8, none⟩ (.int .i64 q.du)).setCell ⟨w.heap.size + 1, 9, none⟩ (.int .i64 q.ta)) := ((((((((((H3.out.1.setCell (p := ⟨w.heap.size + 1, 0, none⟩) (Nat.le_succ _) (.int .u16 q.i)).setCell (p := ⟨w.heap.size + 1, 1, none⟩) (Nat.le_succ _) (.int .u16 q.p)).setCell (p := ⟨w.heap.size + 1, 2, none⟩) (Nat.le_succ _) (.int .u32 q.a)).setCell (p := ⟨w.heap.size + 1, 3, none⟩) (Nat.le_succ _) (.string q.n)).setCell (p := ⟨w.heap.size + 1, 4, none⟩) (Nat.le_succ _) (.int .u16 q.ty)).setCell (p := ⟨w.heap.size + 1, 5, none⟩) (Nat.le_succ _) (.int .u16 q.cl)).setCell (p := ⟨w.heap.size + 1, 6, none⟩) (Nat.le_succ _) (.string q.ck)).setCell (p := ⟨w.heap.size + 1, 7, none⟩) (Nat.le_succ _) (.bool q.tcp)).setCell (p := ⟨w.heap.size + 1, 8, none⟩) (Nat.le_succ _) (.int .i64 q.du)).setCell (p := ⟨w.heap.size + 1, 9, none⟩) (Nat.le_succ _) (.int .i64 q.ta))
      clear r0 r1 r2 r3 r4 r5 r6 r7 r8 r9 f0 f1 f2 f3 f4 f5 f6 f7 f8 f9
      obtain ⟨W3, hW3⟩ : ∃ W3, ((((((((((w2.setCell ⟨w.heap.size + 1, 0, none⟩ (.int .u16 q.i)).setCell ⟨w.heap.size + 1, 1, none⟩ (.int .u16 q.p)).setCell ⟨w.heap.size + 1, 2, none⟩ (.int .u32 q.a)).setCell ⟨w.heap.size + 1, 3, none⟩ (.string q.n)).setCell ⟨w.heap.size + 1, 4, none⟩ (.int .u16 q.ty)).setCell ⟨w.heap.size + 1, 5, none⟩ (.int .u16 q.cl)).setCell ⟨w.heap.size + 1, 6, none⟩ (.string q.ck)).setCell ⟨w.heap.size + 1, 7, none⟩ (.bool q.tcp)).setCell ⟨w.heap.size + 1, 8, none⟩ (.int .i64 q.du)).setCell ⟨w.heap.size + 1, 9, none⟩ (.int .i64 q.ta)) = W3 := ⟨_, rfl⟩
      rw [hW3] at hB hb3 ⊢
      have r0 := hB.cell 0; have r1 := hB.cell 1; have r2 := hB.cell 2; have r3 := hB.cell 3; have r4 := hB.cell 4; have r5 := hB.cell 5; have r6 := hB.cell 6; have r7 := hB.cell 7; have r8 := hB.cell 8; have r9 := hB.cell 9
      exact bodyPost_ret (v := .tuple #[.agg #[.int .u16 q.i, .int .u16 q.p, .int .u32 q.a, .string q.n, .int .u16 q.ty, .int .u16 q.cl, .string q.ck, .bool q.tcp, .int .i64 q.du, .int .i64 q.ta], .int .i64 3]) (by simp [results, Try.results32, go_sem, r0, r1, r2, r3, r4, r5, r6, r7, r8, r9]) rfl ⟨⟨q, .inl rfl⟩, hb3⟩
    · have HQ := Lib.hid hf
      clear hf
      unfold QY.val
      go_wp2_with (fail)
      have hB : Blk ((((((((((w2.setCell ⟨w.heap.size + 1, 0, none⟩ (.int .u16 q.i)).setCell ⟨w.heap.size + 1, 1, none⟩ (.int .u16 q.p)).setCell ⟨w.heap.size + 1, 2, none⟩ (.int .u32 q.a)).setCell ⟨w.heap.size + 1, 3, none⟩ (.string q.n)).setCell ⟨w.heap.size + 1, 4, none⟩ (.int .u16 q.ty)).setCell ⟨w.heap.size + 1, 5, none⟩ (.int .u16 q.cl)).setCell ⟨w.heap.size + 1, 6, none⟩ (.string q.ck)).setCell ⟨w.heap.size + 1, 7, none⟩ (.bool q.tcp)).setCell ⟨w.heap.size + 1, 8, none⟩ (.int .i64 q.du)).setCell ⟨w.heap.size + 1, 9, none⟩ (.int .i64 q.ta)) (w.heap.size + 1) 65 #[.int .u16 q.i, .int .u16 q.p, .int .u32 q.a, .string q.n, .int .u16 q.ty, .int .u16 q.cl, .string q.ck, .bool q.tcp, .int .i64 q.du, .int .i64 q.ta] := by simpa using ((((((((((H3.out.2.1.set_ 0 (.int .u16 q.i)).set_ 1 (.int .u16 q.p)).set_ 2 (.int .u32 q.a)).set_ 3 (.string q.n)).set_ 4 (.int .u16 q.ty)).set_ 5 (.int .u16 q.cl)).set_ 6 (.string q.ck)).set_ 7 (.bool q.tcp)).set_ 8 (.int .i64 q.du)).set_ 9 (.int .i64 q.ta))
      have hb3 : Below w.heap.size w ((((((((((w2.setCell ⟨w.heap.size + 1, 0, none⟩ (.int .u16 q.i)).setCell ⟨w.heap.size + 1, 1, none⟩ (.int .u16 q.p)).setCell ⟨w.heap.size + 1, 2, none⟩ (.int .u32 q.a)).setCell ⟨w.heap.size + 1, 3, none⟩ (.string q.n)).setCell ⟨w.heap.size + 1, 4, none⟩ (.int .u16 q.ty)).setCell ⟨w.heap.size + 1, 5, none⟩ (.int .u16 q.cl)).setCell ⟨w.heap.size + 1, 6, none⟩ (.string q.ck)).setCell ⟨w.heap.size + 1, 7, none⟩ (.bool q.tcp)).setCell ⟨w.heap.size + 1, 8, none⟩ (.int .i64 q.du)).setCell ⟨w.heap.size + 1, 9, none⟩ (.int .i64 q.ta)) := ((((((((((H3.out.1.setCell (p := ⟨w.heap.size + 1, 0, none⟩) (Nat.le_succ _) (.int .u16 q.i)).setCell (p := ⟨w.heap.size + 1, 1, none⟩) (Nat.le_succ _) (.int .u16 q.p)).setCell (p := ⟨w.heap.size + 1, 2, none⟩) (Nat.le_succ _) (.int .u32 q.a)).setCell (p := ⟨w.heap.size + 1, 3, none⟩) (Nat.le_succ _) (.string q.n)).setCell (p := ⟨w.heap.size + 1, 4, none⟩) (Nat.le_succ _) (.int .u16 q.ty)).setCell (p := ⟨w.heap.size + 1, 5, none⟩) (Nat.le_succ _) (.int .u16 q.cl)).setCell (p := ⟨w.heap.size + 1, 6, none⟩) (Nat.le_succ _) (.string q.ck)).setCell (p := ⟨w.heap.size + 1, 7, none⟩) (Nat.le_succ _) (.bool q.tcp)).setCell (p := ⟨w.heap.size + 1, 8, none⟩) (Nat.le_succ _) (.int .i64 q.du)).setCell (p := ⟨w.heap.size + 1, 9, none⟩) (Nat.le_succ _) (.int .i64 q.ta))
      clear r0 r1 r2 r3 r4 r5 r6 r7 r8 r9 f0 f1 f2 f3 f4 f5 f6 f7 f8 f9
      obtain ⟨W3, hW3⟩ : ∃ W3, ((((((((((w2.setCell ⟨w.heap.size + 1, 0, none⟩ (.int .u16 q.i)).setCell ⟨w.heap.size + 1, 1, none⟩ (.int .u16 q.p)).setCell ⟨w.heap.size + 1, 2, none⟩ (.int .u32 q.a)).setCell ⟨w.heap.size + 1, 3, none⟩ (.string q.n)).setCell ⟨w.heap.size + 1, 4, none⟩ (.int .u16 q.ty)).setCell ⟨w.heap.size + 1, 5, none⟩ (.int .u16 q.cl)).setCell ⟨w.heap.size + 1, 6, none⟩ (.string q.ck)).setCell ⟨w.heap.size + 1, 7, none⟩ (.bool q.tcp)).setCell ⟨w.heap.size + 1, 8, none⟩ (.int .i64 q.du)).setCell ⟨w.heap.size + 1, 9, none⟩ (.int .i64 q.ta)) = W3 := ⟨_, rfl⟩
      rw [hW3] at hB hb3 ⊢
      have r0 := hB.cell 0; have r1 := hB.cell 1; have r2 := hB.cell 2; have r3 := hB.cell 3; have r4 := hB.cell 4; have r5 := hB.cell 5; have r6 := hB.cell 6; have r7 := hB.cell 7; have r8 := hB.cell 8; have r9 := hB.cell 9
      exact bodyPost_ret (v := .tuple #[.agg #[.int .u16 q.i, .int .u16 q.p, .int .u32 q.a, .string q.n, .int .u16 q.ty, .int .u16 q.cl, .string q.ck, .bool q.tcp, .int .i64 q.du, .int .i64 q.ta], .int .i64 0]) (by simp [results, Try.results32, go_sem, r0, r1, r2, r3, r4, r5, r6, r7, r8, r9]) rfl ⟨⟨q, .inr ⟨HQ.out, rfl⟩⟩, hb3⟩
end Go.Proofs.Ythjkdpphbipgfaa
