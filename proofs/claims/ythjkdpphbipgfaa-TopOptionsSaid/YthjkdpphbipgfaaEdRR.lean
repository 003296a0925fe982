/- The walks of edns.typed, and of slices.IndexFunc, ContainsFunc, Clone, DeleteFunc at records. Conditions: none. -/
import Derived.Test.YthjkdpphbipgfaaWith
import Derived.Test.YthjkdpphbipgfaaMsgSame
namespace Go.Proofs.Ythjkdpphbipgfaa
open Go.RowKit Go.Lib

theorem info_rrE : (Try.prog.info? 30).map (fun i => (i.zero, i.size, i.bytes)) = some (some (.agg #[.string ⟨#[]⟩, .int .u16 0, .int .u16 0, .int .u32 0, .string ⟨#[]⟩]), 5, 40) := by kernel_rfl
theorem rr_oneE (xs : List RRec) : ∀ u ∈ flatV RRec.vs xs, u.oneCell' = true := by
  intro u hu
  obtain ⟨e, _, hu⟩ := List.mem_flatMap.1 hu
  simp only [RRec.vs, List.mem_cons, List.not_mem_nil, or_false] at hu
  rcases hu with rfl | rfl | rfl | rfl | rfl <;> rfl
def RRec.is (k : Int) (r : RRec) : Bool := r.t == k
theorem typed1_any (k : Int) (r : RRec) (B : Nat) (W : World) (hB : B < W.heap.size) (hk : W.cell? ⟨B, 0, none⟩ = some (.int .u16 k)) :
    Calls Try.prog 90 #[r.val, .pointer (some ⟨B, 0, none⟩)] W fun e w' => e = .returned (.bool (RRec.is k r)) ∧ Below W.heap.size W w' := by
  have hne : B ≠ W.heap.size := by omega
  dsimp only [RRec.val, RRec.is]
  go_enter Try.func90, Try.ntmps90
  go_wp2
  go_ret
  exact ⟨rfl, (Below.refl _ _).alloc (Nat.le_refl _) _⟩

theorem typed_any (k : Int) (W : World) :
    Calls Try.prog 60 #[.int .u16 k] W fun e w' => e = .returned (.func (.func 90) #[] #[.pointer (some ⟨W.heap.size, 0, none⟩)]) ∧ w' = W.alloc (.cells #[.int .u16 k] 27) := by
  go_enter Try.func60, Try.ntmps60
  go_wp2
  go_ret
  exact ⟨rfl, rfl⟩

set_option maxHeartbeats 1000000 in
set_option maxRecDepth 100000 in
theorem indexR_any (xs : List RRec) (A : Option Addr) (c : Nat) (k : Int) (B : Nat) (w : World)
    (hT : RTab w A xs) (hB : B < w.heap.size) (hk : w.cell? ⟨B, 0, none⟩ = some (.int .u16 k)) (hbig : xs.length ≤ 9223372036854775807) :
    Calls Try.prog 62 #[.slice A xs.length c, .func (.func 90) #[] #[.pointer (some ⟨B, 0, none⟩)]] w fun e w' => e = .returned (.int .i64 (idxP (RRec.is k) xs)) ∧ Below w.heap.size w w' := by
  have HT := Lib.hid hT
  have HK := Lib.hid (And.intro hB hk)
  clear hT hB hk
  go_enter Try.func62, Try.ntmps62
  go_wp2
  go_loopg [5, 8] xs.length (fun gg _ s8 wr => ∃ kk : Nat, kk ≤ xs.length ∧ xs.length - kk ≤ gg ∧ s8 = .int .i64 kk ∧ Aside (Below w.heap.size w wr) ∧ Aside (∀ j f, j < kk → xs[j]? = some f → RRec.is k f = false))
  case atStart => exact ⟨0, Nat.zero_le _, by omega, rfl, Below.refl _ w, fun j _ hj => absurd hj (Nat.not_lt_zero _)⟩
  case round =>
    obtain ⟨kk, hkk, hg, rfl, BW, AA⟩ := hrel
    by_cases hlt : kk < xs.length
    · have hltz : (kk : Int) < (xs.length : Int) := by omega
      have HTr := HT.out.below BW.out
      obtain ⟨e, he⟩ : ∃ e, xs[kk]? = some e := ⟨_, List.getElem?_eq_getElem hlt⟩
      obtain ⟨b, off, rfl, hbs, c0, c1, c2, c3, c4⟩ := HTr.cells he
      have hcall := typed1_any k e B wr (Nat.lt_of_lt_of_le HK.out.1 BW.out.size) ((BW.out.cell (p := ⟨B, 0, none⟩) HK.out.1).trans HK.out.2)
      rw [show e.val = .agg #[.string e.n, .int .u16 e.t, .int .u16 e.c, .int .u32 e.l, .string e.d] from rfl] at hcall
      have HE := Lib.hid he
      have hsize := BW.out.size
      clear HTr he
      cases hq : RRec.is k e with
      | true =>
        have hq2 : RRec.is k e = true := hq
        rw [hq2] at hcall
        have HQ := Lib.hid hq
        clear hq hq2
        go_wp2_with (fail)
        with_reducible refine hcall.mono ?_
        rintro e w' ⟨rfl, hb'⟩
        go_wp2_with (fail)
        go_ret
        refine ⟨?_, BW.out.trans (hb'.mono hsize)⟩
        rw [idxP_hit HE.out HQ.out AA.out]; rfl
      | false =>
        have hq2 : RRec.is k e = false := hq
        rw [hq2] at hcall
        have HQ := Lib.hid hq
        clear hq hq2
        go_wp2_with (fail)
        with_reducible refine hcall.mono ?_
        rintro e w' ⟨rfl, hb'⟩
        go_wp2_with (fail)
        go_roundg (xs.length - (kk + 1))
        case measure => omega
        case rel =>
          refine ⟨kk + 1, by omega, by omega, by go_num, BW.out.trans (hb'.mono hsize), (show Aside _ from fun j f hj hf => ?_)⟩
          by_cases h : j = kk
          · subst h
            rw [HE.out] at hf
            cases hf
            exact HQ.out
          · exact AA.out j f (by omega) hf
    · obtain rfl : kk = xs.length := by omega
      clear hlt
      go_wp2
      go_ret
      refine ⟨?_, BW.out⟩
      rw [idxP_miss AA.out]; rfl


set_option maxRecDepth 100000 in
theorem containsR_any (xs : List RRec) (A : Option Addr) (c : Nat) (k : Int) (B : Nat) (w : World)
    (hT : RTab w A xs) (hB : B < w.heap.size) (hk : w.cell? ⟨B, 0, none⟩ = some (.int .u16 k)) (hbig : xs.length ≤ 1000000) :
    Calls Try.prog 61 #[.slice A xs.length c, .func (.func 90) #[] #[.pointer (some ⟨B, 0, none⟩)]] w fun e w' => e = .returned (.bool (xs.any (RRec.is k))) ∧ Below w.heap.size w w' := by
  have HI := Lib.hid (indexR_any xs A c k B w hT hB hk (by omega))
  obtain ⟨i, hi⟩ : ∃ i, idxP (RRec.is k) xs = i := ⟨_, rfl⟩
  have hany : xs.any (RRec.is k) = decide (0 ≤ i) := by
    rcases idxP_cases (RRec.is k) xs with ⟨h1, h2⟩ | ⟨j, e, h1, h2, h3, h4⟩
    · have : i = -1 := by omega
      subst this
      rw [List.find?_eq_none] at h2
      have : xs.any (RRec.is k) = false := Bool.eq_false_iff.2 (fun h => by obtain ⟨x, hx, hp⟩ := List.any_eq_true.1 h; exact h2 x hx hp)
      rw [this]; rfl
    · have : 0 ≤ i := by omega
      rw [decide_eq_true this]
      exact List.any_eq_true.2 ⟨e, List.mem_of_getElem? h2, h3⟩
  have hib : -1 ≤ i ∧ i ≤ 1000000 := by
    rcases idxP_cases (RRec.is k) xs with ⟨h1, h2⟩ | ⟨j, e, h1, h2, h3, h4⟩
    · omega
    · have := (List.getElem?_eq_some_iff.1 h2).1; omega
  rw [hi] at HI
  rw [hany]
  clear hany hi hT hB hk
  go_enter Try.func61, Try.ntmps61
  go_wp2_with (fail)
  with_reducible refine HI.out.mono ?_
  rintro e w1 ⟨rfl, hb⟩
  go_wp2_with (fail)
  go_ret
  exact ⟨rfl, hb⟩

def ClPostR (L : List RRec) (w : World) (e : Ending) (w' : World) : Prop :=
  ∃ A c, e = .returned (.slice A L.length c) ∧ Sl w' 5 (.slice A L.length c) L.length (flatV RRec.vs L) ∧ (∀ g, (Value.slice A L.length c).ownBlock = some g → w.heap.size ≤ g) ∧ Below w.heap.size w w'

set_option maxHeartbeats 1000000 in
set_option maxRecDepth 100000 in
theorem cloneR_any (xs : List RRec) (A : Option Addr) (c : Nat) (w : World) (hT : RTab w A xs) (hn : xs.length ≤ 8192) :
    Calls Try.prog 58 #[.slice A xs.length c] w (ClPostR xs w) := by
  obtain ⟨i0, hi0, hz0, hz1, hz2⟩ := info_parts info_rrE
  cases A with
  | none =>
    have h0 : xs = [] := by
      cases xs with
      | nil => rfl
      | cons e xs => obtain ⟨_, _, h, _⟩ := hT (by simp); cases h
    subst h0
    have hq := fun w : World => Lib.run_eql_slice_nil w _ _ none 0 c 0 0 Try.underlying24
    simp only [Option.isNone_none] at hq
    clear hT
    go_enter Try.func58, Try.ntmps58
    go_wp2_with (fail)
    go_ret
    exact ⟨none, 0, rfl, Sl.nil _ _, fun g hg => by simp [Value.ownBlock] at hg, Below.refl _ _⟩
  | some a =>
    have hq := fun w : World => Lib.run_eql_slice_nil w _ _ (some a) xs.length c 0 0 Try.underlying24
    simp only [Option.isNone_some] at hq
    have HSR := Lib.hid (src_reads (P := Try.prog) (c := c) Try.underlying24 (((hT.below ((Below.refl _ w).alloc (Nat.le_refl _) (.cells #[] 30)) : RTab (w.alloc (.cells #[] 30)) (some a) xs)).reads RRec.five (by decide)) (rr_oneE xs))
    have HSL := Lib.hid (sl_empty_n w 30 5)
    clear hT
    go_enter Try.func58, Try.ntmps58
    go_wp2_with (at_builtin; go_must (refine wpList_append_sl _ rfl (.tmp 5) (.tmp 6) 24 24 rfl 30 i0 (.agg #[.string ⟨#[]⟩, .int .u16 0, .int .u16 0, .int .u32 0, .string ⟨#[]⟩]) 5 40 Try.underlying24 hi0 hz0 hz1 hz2 rfl (.slice (some ⟨w.heap.size, 0, none⟩) 0 0) 0 [] rfl HSL.out (.slice (some a) xs.length c) rfl xs.length (flatV RRec.vs xs) HSR.out (by unfold maxLen; omega) (by omega) ?_); intro v1 w1 hs1 hg1 hv1; rw [Nat.zero_add, List.nil_append] at hs1; obtain ⟨A3, c3, rfl, hc3, hm3⟩ := hs1.shape)
    go_ret
    refine ⟨A3, c3, rfl, hs1, own_fromQ (B := w.heap.size) (fun g hg => by simp [Value.ownBlock] at hg; omega) (by simp) hv1, ?_⟩
    exact ((Below.refl _ _).alloc (Nat.le_refl _) _).grown hg1 (by simp) (fun k hk => by simp [Value.ownBlock] at hk; omega)


/-- What is left. -/
def leftsR (k : Int) (xs : List RRec) : List RRec := xs.filter fun o => !(RRec.is k o)
theorem leftsR_miss {k : Int} {xs : List RRec} (h : xs.find? (RRec.is k) = none) : leftsR k xs = xs := by
  unfold leftsR
  rw [List.filter_eq_self]
  intro o ho
  have := List.find?_eq_none.1 h o ho
  simpa using this

/-- What DeleteFunc gives back. -/
def DelPostR (k : Int) (xs : List RRec) (v : Value) (w : World) (e : Ending) (w' : World) : Prop :=
  ∃ A c, e = .returned (.slice A (leftsR k xs).length c) ∧ Sl w' 5 (.slice A (leftsR k xs).length c) (leftsR k xs).length (flatV RRec.vs (leftsR k xs)) ∧
    (∀ g, (Value.slice A (leftsR k xs).length c).ownBlock = some g → v.ownBlock = some g) ∧ KeepK (fun i => i < w.heap.size ∧ v.ownBlock ≠ some i) w w'

set_option maxRecDepth 100000 in
theorem deleteR_miss (xs : List RRec) (A : Option Addr) (c : Nat) (k : Int) (B : Nat) (w : World) (hS : Sl w 5 (.slice A xs.length c) xs.length (flatV RRec.vs xs)) (hB : B < w.heap.size) (hk : w.cell? ⟨B, 0, none⟩ = some (.int .u16 k))
    (hbig : xs.length ≤ 9223372036854775807) (hm : xs.find? (RRec.is k) = none) :
    Calls Try.prog 59 #[.slice A xs.length c, .func (.func 90) #[] #[.pointer (some ⟨B, 0, none⟩)]] w (DelPostR k xs (.slice A xs.length c) w) := by
  have hI := indexR_any xs A c k B w (rtab_of_sl hS) hB hk hbig
  have h1 : idxP (RRec.is k) xs = -1 := by
    rcases idxP_cases (RRec.is k) xs with ⟨h, _⟩ | ⟨_, o, _, _, _, h⟩
    · exact h
    · rw [hm] at h; cases h
  rw [h1] at hI
  have HI := Lib.hid hI
  have HS := Lib.hid (And.intro hS (leftsR_miss hm))
  clear hI h1 hS hk hB  hm
  go_enter Try.func59, Try.ntmps59
  go_wp2_with (fail)
  with_reducible refine HI.out.mono ?_
  rintro e w1 ⟨rfl, hb⟩
  go_wp2_with (fail)
  go_ret
  refine ⟨A, c, ?_, ?_, ?_, ?_⟩
  · rw [HS.out.2]; rfl
  · rw [HS.out.2]; exact HS.out.1.below hb HS.out.1.lt
  · rw [HS.out.2]; exact fun g h => h
  · exact KeepK.of_below hb fun i hi => hi.1

theorem leftsR_snoc (k : Int) (xs : List RRec) {j : Nat} (hj : j < xs.length) : leftsR k (xs.take (j + 1)) = if RRec.is k xs[j] = true then leftsR k (xs.take j) else leftsR k (xs.take j) ++ [xs[j]] := by
  unfold leftsR
  rw [List.take_succ_eq_append_getElem hj, List.filter_append]
  cases h : RRec.is k xs[j] <;> simp [h]

theorem flatR_set : ∀ (Z : List RRec) (i : Nat) (o : RRec), flatV RRec.vs (Z.set i o) = (((((flatV RRec.vs Z).set (i * 5) (.string o.n)).set (i * 5 + 1) (.int .u16 o.t)).set (i * 5 + 2) (.int .u16 o.c)).set (i * 5 + 3) (.int .u32 o.l)).set (i * 5 + 4) (.string o.d)
  | [], i, o => by simp [flatV]
  | e :: Z, 0, o => by simp [flatV, RRec.vs]
  | e :: Z, i + 1, o => by
    have h1 : flatV RRec.vs (e :: Z) = .string e.n :: .int .u16 e.t :: .int .u16 e.c :: .int .u32 e.l :: .string e.d :: flatV RRec.vs Z := rfl
    have h2 : flatV RRec.vs ((e :: Z).set (i + 1) o) = .string e.n :: .int .u16 e.t :: .int .u16 e.c :: .int .u32 e.l :: .string e.d :: flatV RRec.vs (Z.set i o) := rfl
    rw [h1, h2, flatR_set Z i o, show (i + 1) * 5 = i * 5 + 1 + 1 + 1 + 1 + 1 by omega]
    simp only [List.set_cons_succ]
theorem Sl.setR {w : World} {g n c : Nat} {Z : List RRec} (h : Sl w 5 (.slice (some ⟨g, 0, none⟩) n c) n (flatV RRec.vs Z)) (i : Nat) (hi : i < n) (o : RRec) :
    Sl (((((w.setCell ⟨g, i * 5, none⟩ (.string o.n)).setCell ⟨g, i * 5 + 1, none⟩ (.int .u16 o.t)).setCell ⟨g, i * 5 + 2, none⟩ (.int .u16 o.c)).setCell ⟨g, i * 5 + 3, none⟩ (.int .u32 o.l)).setCell ⟨g, i * 5 + 4, none⟩ (.string o.d)) 5 (.slice (some ⟨g, 0, none⟩) n c) n (flatV RRec.vs (Z.set i o)) := by
  rw [flatR_set]
  exact ((((h.set_ (g := g) rfl (i * 5) _ (by omega)).set_ (g := g) rfl (i * 5 + 1) _ (by omega)).set_ (g := g) rfl (i * 5 + 2) _ (by omega)).set_ (g := g) rfl (i * 5 + 3) _ (by omega)).set_ (g := g) rfl (i * 5 + 4) _ (by omega)
theorem flatR_take (Z : List RRec) (m : Nat) : (flatV RRec.vs Z).take (m * 5) = flatV RRec.vs (Z.take m) := by
  have h := congrArg (flatV RRec.vs) (List.take_append_drop m Z)
  rw [flatV_append] at h
  rcases Nat.lt_or_ge m Z.length with hm | hm
  · rw [← h, List.take_append_of_le_length (by rw [flatV_length RRec.five, List.length_take]; omega), List.take_of_length_le (by rw [flatV_length RRec.five, List.length_take]; omega)]
  · rw [List.take_of_length_le (by rw [flatV_length RRec.five]; omega), List.take_of_length_le hm]

set_option maxRecDepth 100000 in
set_option maxHeartbeats 2000000 in
theorem deleteR_hit (xs : List RRec) (g c : Nat) (k : Int) (B : Nat) (w : World) (hS : Sl w 5 (.slice (some ⟨g, 0, none⟩) xs.length c) xs.length (flatV RRec.vs xs)) (hB : B < w.heap.size) (hBg : B ≠ g) (hk : w.cell? ⟨B, 0, none⟩ = some (.int .u16 k))
    (hbig : xs.length ≤ 4096) (p : Nat) (hp : p < xs.length) (hpi : idxP (RRec.is k) xs = (p : Int)) (hpk : RRec.is k xs[p] = true) (hpn : leftsR k (xs.take p) = xs.take p) :
    Calls Try.prog 59 #[.slice (some ⟨g, 0, none⟩) xs.length c, .func (.func 90) #[] #[.pointer (some ⟨B, 0, none⟩)]] w (DelPostR k xs (.slice (some ⟨g, 0, none⟩) xs.length c) w) := by
  have hI := indexR_any xs (some ⟨g, 0, none⟩) c k B w (rtab_of_sl hS) hB hk (by omega)
  rw [hpi] at hI
  have HI := Lib.hid hI
  have HS := Lib.hid (And.intro hS (And.intro hB (And.intro hBg hk)))
  have HP := Lib.hid (And.intro hp (And.intro hpk hpn))
  have hpI : (p : Int) ≤ 4096 := by omega
  have hlI : (xs.length : Int) ≤ 4096 := by omega
  clear hI hpi hS hk hB  hBg hpk hpn
  go_enter Try.func59, Try.ntmps59
  go_wp2_with (fail)
  with_reducible refine HI.out.mono ?_
  rintro e w1 ⟨rfl, hb⟩
  have H1 := Lib.hid hb
  clear hb
  go_wp2_with (fail)
  go_loopg [5, 6] (xs.length - p) (fun gg v5 v6 wr => ∃ (i j : Nat) (Z : List RRec), gg + j = xs.length + 1 ∧ j ≤ xs.length ∧ v5 = .int .i64 (i : Int) ∧ v6 = .int .i64 (j : Int) ∧ i < j ∧ Aside (Z.length = xs.length) ∧ Aside (Z.take i = leftsR k (xs.take j)) ∧ Aside (Z.drop j = xs.drop j) ∧ Aside (Sl wr 5 (.slice (some ⟨g, 0, none⟩) xs.length c) xs.length (flatV RRec.vs Z)) ∧ Aside (KeepK (fun i => i < w.heap.size ∧ i ≠ g) w wr))
  case atStart =>
    have hx := HP.out
    refine ⟨p, p + 1, xs, by have := HP.out.1; omega, by have := HP.out.1; omega, rfl, by go_num, by omega, rfl, ?_, rfl, HS.out.1.below H1.out HS.out.1.lt, KeepK.of_below H1.out fun i hi => hi.1⟩
    show _ = _
    rw [leftsR_snoc k xs hx.1, if_pos hx.2.1, hx.2.2]
  case round =>
    obtain ⟨i, j, Z, hgj, hjl, rfl, rfl, hij, hZl, hZt, hZd, hSZ, hKZ⟩ := hrel
    by_cases hlt : j < xs.length
    · have hjI : (j : Int) < (xs.length : Int) := by omega
      have hiI : (i : Int) < (xs.length : Int) := by omega
      have hjb : (j : Int) ≤ 4096 := by omega
      have hZj : Z[j]? = some xs[j] := by
        have := congrArg (fun l => l[0]?) hZd.out
        simpa [List.getElem?_drop, List.getElem?_eq_getElem hlt] using this
      obtain ⟨x, hx0⟩ : ∃ x, xs[j] = x := ⟨_, rfl⟩
      rw [hx0] at hZj
      have c0 : wr.cell? ⟨g, j * 5, none⟩ = some (.string x.n) := hSZ.out.cell rfl (flatV_at RRec.five Z j _ 0 _ hZj rfl)
      have c1 : wr.cell? ⟨g, j * 5 + 1, none⟩ = some (.int .u16 x.t) := hSZ.out.cell rfl (flatV_at RRec.five Z j _ 1 _ hZj rfl)
      have c2 : wr.cell? ⟨g, j * 5 + 2, none⟩ = some (.int .u16 x.c) := hSZ.out.cell rfl (flatV_at RRec.five Z j _ 2 _ hZj rfl)
      have c3 : wr.cell? ⟨g, j * 5 + 3, none⟩ = some (.int .u32 x.l) := hSZ.out.cell rfl (flatV_at RRec.five Z j _ 3 _ hZj rfl)
      have c4 : wr.cell? ⟨g, j * 5 + 4, none⟩ = some (.string x.d) := hSZ.out.cell rfl (flatV_at RRec.five Z j _ 4 _ hZj rfl)
      have hgl : g < wr.heap.size := hSZ.out.lt g rfl
      have hBk : (wr.alloc (.cells #[.string x.n, .int .u16 x.t, .int .u16 x.c, .int .u32 x.l, .string x.d] 30)).cell? ⟨B, 0, none⟩ = some (.int .u16 k) := by
        have h0 := HS.out.2.1
        have h1 := hKZ.out.size
        rw [World.cell?_alloc_lt _ _ _ (show B < wr.heap.size by omega), World.cell?_of_block (a := ⟨B, 0, none⟩) (hKZ.out.block B ⟨h0, HS.out.2.2.1⟩)]
        exact HS.out.2.2.2
      have hcall := typed1_any k x B _ (by have := HS.out.2.1; have := hKZ.out.size; simp; omega) hBk
      rw [show x.val = .agg #[.string x.n, .int .u16 x.t, .int .u16 x.c, .int .u32 x.l, .string x.d] from rfl] at hcall
      have HX := Lib.hid (And.intro hlt (And.intro hij hx0))
      have HC := Lib.hid hcall
      clear hx0
      cases hq : RRec.is k x with
      | true =>
        have hq2 : RRec.is k x = true := hq
        rw [hq2] at HC
        clear hcall hBk hZj
        go_wp2_with (fail)
        with_reducible refine HC.out.mono ?_
        rintro e w2 ⟨rfl, hb⟩
        go_wp2_with (fail)
        go_roundg (xs.length - j)
        case measure => have := HX.out; omega
        case rel =>
          have hx := HX.out
          refine ⟨i, j + 1, Z, by omega, by omega, rfl, by go_num, by omega, hZl.out, ?_, ?_, (hSZ.out.alloc _).below hb (hSZ.out.alloc _).lt, (hKZ.out.alloc (fun i hi => by have := hKZ.out.size; omega) _).trans (KeepK.of_below hb fun i hi => by have := hKZ.out.size; simp; omega)⟩
          · show _ = _
            rw [leftsR_snoc k xs hx.1, hx.2.2, if_pos hq]; exact hZt.out
          · show _ = _
            rw [← List.drop_drop, ← List.drop_drop, hZd.out]
      | false =>
        have hq2 : RRec.is k x = false := hq
        rw [hq2] at HC
        clear hcall hBk hZj
        go_wp2_with (fail)
        with_reducible refine HC.out.mono ?_
        rintro e w2 ⟨rfl, hb⟩
        have hS2 := (hSZ.out.alloc (.cells #[.string x.n, .int .u16 x.t, .int .u16 x.c, .int .u32 x.l, .string x.d] 30)).below hb (hSZ.out.alloc _).lt
        have hbx := ((Blk.new wr 30 #[.string x.n, .int .u16 x.t, .int .u16 x.c, .int .u32 x.l, .string x.d]).below hb (by simp))
        have d0 := hbx.cell 0
        have d1 := hbx.cell 1
        have d2 := hbx.cell 2
        have d3 := hbx.cell 3
        have d4 := hbx.cell 4
        have f0 := hS2.free (g := g) rfl (j := i * 5) (by omega)
        have f1 := hS2.free (g := g) rfl (j := i * 5 + 1) (by omega)
        have f2 := hS2.free (g := g) rfl (j := i * 5 + 2) (by omega)
        have f3 := hS2.free (g := g) rfl (j := i * 5 + 3) (by omega)
        have f4 := hS2.free (g := g) rfl (j := i * 5 + 4) (by omega)
        have hgl2 := hS2.lt g rfl
        obtain ⟨oi, hoi⟩ : ∃ oi, Z[i]? = some oi := ⟨_, List.getElem?_eq_getElem (by have := hZl.out; omega)⟩
        have e0 : w2.cell? ⟨g, i * 5, none⟩ = some (.string oi.n) := hS2.cell rfl (flatV_at RRec.five Z i _ 0 _ hoi rfl)
        have e1 : w2.cell? ⟨g, i * 5 + 1, none⟩ = some (.int .u16 oi.t) := hS2.cell rfl (flatV_at RRec.five Z i _ 1 _ hoi rfl)
        have e2 : w2.cell? ⟨g, i * 5 + 2, none⟩ = some (.int .u16 oi.c) := hS2.cell rfl (flatV_at RRec.five Z i _ 2 _ hoi rfl)
        have e3 : w2.cell? ⟨g, i * 5 + 3, none⟩ = some (.int .u32 oi.l) := hS2.cell rfl (flatV_at RRec.five Z i _ 3 _ hoi rfl)
        have e4 : w2.cell? ⟨g, i * 5 + 4, none⟩ = some (.string oi.d) := hS2.cell rfl (flatV_at RRec.five Z i _ 4 _ hoi rfl)
        go_wp2_with (fail)
        go_roundg (xs.length - j)
        case measure => have := HX.out; omega
        case rel =>
          have hx := HX.out
          have hKw : KeepK (fun i => i < w.heap.size ∧ i ≠ g) w w2 := (hKZ.out.alloc (fun i hi => by have := hKZ.out.size; omega) _).trans (KeepK.of_below hb fun i hi => by have := hKZ.out.size; simp; omega)
          refine ⟨i + 1, j + 1, Z.set i x, by omega, by omega, by go_num, by go_num, by omega, ?_, ?_, ?_, hS2.setR i (by omega) x, ((((hKw.setCell (fun i hi => hi.2) _).setCell (fun i hi => hi.2) _).setCell (fun i hi => hi.2) _).setCell (fun i hi => hi.2) _).setCell (fun i hi => hi.2) _⟩
          · show _ = _
            rw [List.length_set]; exact hZl.out
          · show _ = _
            rw [leftsR_snoc k xs hx.1, hx.2.2, if_neg (by rw [hq]; simp), ← hZt.out, List.take_succ_eq_append_getElem (by rw [List.length_set, hZl.out]; omega), List.getElem_set_self, List.take_set_of_le (Nat.le_refl _)]
          · show _ = _
            rw [List.drop_set_of_lt (by omega), ← List.drop_drop, ← List.drop_drop, hZd.out]
    · obtain rfl : j = xs.length := by omega
      have hic : i < c := by
        rcases hSZ.out.2 with ⟨hv, _⟩ | ⟨g', cap, hv, _, h1, _⟩
        · cases hv
        · injection hv with _ _ e3
          omega
      have hne : ¬ c = i := by omega
      have hzl : (Builtin.zeroCells (Value.agg #[.string ⟨#[]⟩, .int .u16 0, .int .u16 0, .int .u32 0, .string ⟨#[]⟩]).cells (xs.length - i)).toList.length = (xs.length - i) * 5 := by
        rw [Array.length_toList, size_zeroCells]; rfl
      have hcl : (Builtin.clear_ #[24] 0 #[.slice (some ⟨g, i * 5, none⟩) (xs.length - i) (c - i)]).run Try.prog wr = .ok (.tuple #[]) (wr.setCells g (i * 5) (Builtin.zeroCells (Value.agg #[.string ⟨#[]⟩, .int .u16 0, .int .u16 0, .int .u32 0, .string ⟨#[]⟩]).cells (xs.length - i)).toList) := by
        refine run_clear_any (P := Try.prog) wr _ 30 0 _ Try.underlying24 (fun w => ?_) g (i * 5) (xs.length - i) (c - i) (by omega) (fun v hv => ?_) (fun j hj => ?_) (fun j hj => ?_)
        · rfl
        · obtain ⟨q, hq, rfl⟩ := mem_zeroCells hv
          match q, hq with
          | 0, _ => rfl
          | 1, _ => rfl
          | 2, _ => rfl
          | 3, _ => rfl
          | 4, _ => rfl
        · rw [hzl] at hj
          obtain ⟨o, ho⟩ : ∃ o, (flatV RRec.vs Z)[i * 5 + j]? = some o := ⟨_, List.getElem?_eq_getElem (by rw [flatV_length RRec.five, hZl.out]; omega)⟩
          rw [hSZ.out.cell (g := g) rfl ho]; rfl
        · rw [hzl] at hj
          exact hSZ.out.free (g := g) rfl (by omega)
      have hiI : (i : Int) < (xs.length : Int) := by omega
      have HZ := Lib.hid hzl
      have HX := Lib.hid hij
      clear hzl
      go_wp2_with (fail)
      go_ret
      have hzl := HZ.out
      have hij := HX.out
      have hlz : (leftsR k xs).length = i := by
        have := hZt.out
        rw [List.take_length] at this
        rw [← this, List.length_take, hZl.out]; omega
      have hcut := hSZ.out.cut i (by omega) (Builtin.zeroCells (Value.agg #[.string ⟨#[]⟩, .int .u16 0, .int .u16 0, .int .u32 0, .string ⟨#[]⟩]).cells (xs.length - i)).toList (by rw [hzl]; omega)
      have hf : (flatV RRec.vs Z).take (i * 5) = flatV RRec.vs (leftsR k xs) := by
        rw [flatR_take, hZt.out, List.take_length]
      rw [hf] at hcut
      refine ⟨some ⟨g, 0, none⟩, c, ?_, ?_, ?_, ?_⟩
      · rw [hlz]; rfl
      · rw [hlz]; exact hcut
      · intro g' hg'
        exact hg'
      · have hgs : ∀ q, ¬ (Value.slice (some ⟨g, 0, none⟩) (xs.length : Nat) c).ownBlock = some q → q ≠ g := fun q hq e => hq (by rw [e]; rfl)
        have hsz := hKZ.out.size
        exact (hKZ.out.mono fun q hq => ⟨hq.1, hgs q hq.2⟩).setCells g _ _ fun q hq => ⟨Nat.lt_of_lt_of_le hq.1 hsz, hgs q hq.2⟩

theorem leftsR_before {k : Int} {xs : List RRec} {p : Nat} (h : ∀ j (hj : j < xs.length), j < p → RRec.is k xs[j] = false) : leftsR k (xs.take p) = xs.take p := by
  unfold leftsR
  rw [List.filter_eq_self]
  intro o ho
  obtain ⟨j, hj, rfl⟩ := List.getElem_of_mem ho
  rw [List.length_take] at hj
  rw [List.getElem_take, h j (by omega) (by omega)]
  rfl

theorem deleteR_any (xs : List RRec) (A : Option Addr) (c : Nat) (k : Int) (B : Nat) (w : World) (hS : Sl w 5 (.slice A xs.length c) xs.length (flatV RRec.vs xs)) (hB : B < w.heap.size) (hBg : (Value.slice A xs.length c).ownBlock ≠ some B)
    (hk : w.cell? ⟨B, 0, none⟩ = some (.int .u16 k)) (hbig : xs.length ≤ 4096) :
    Calls Try.prog 59 #[.slice A xs.length c, .func (.func 90) #[] #[.pointer (some ⟨B, 0, none⟩)]] w (DelPostR k xs (.slice A xs.length c) w) := by
  cases h : xs.findIdx? (RRec.is k) with
  | none =>
    rw [List.findIdx?_eq_none_iff] at h
    exact deleteR_miss xs A c k B w  hS hB hk (by omega) (List.find?_eq_none.2 fun x hx => by rw [h x hx]; simp)
  | some p =>
    have hi : idxP (RRec.is k) xs = (p : Int) := by unfold idxP; rw [h]
    rw [List.findIdx?_eq_some_iff_getElem] at h
    obtain ⟨hp, hpk, hn⟩ := h
    obtain ⟨g, cap, hv, hg, _⟩ := hS.form (by omega)
    injection hv with hA _ _
    subst hA
    refine deleteR_hit xs g c k B w  hS hB (fun e => hBg (by rw [e]; rfl)) hk hbig p hp hi hpk (leftsR_before fun j hj hjp => ?_)
    have := hn j hjp
    simpa using this

end Go.Proofs.Ythjkdpphbipgfaa
