/- The builtin clear at a slice whose elements have more cells than one. Plain: no program in sight. Conditions: none. The walk of slices.DeleteFunc at options, over a row of the call's own. The walk of slices.DeleteFunc at options, where something is deleted. The walk of edns.With. What was put in is had: plain. -/
import Derived.Test.YthjkdpphbipgfaaClear
import Derived.Lib.SliceRun
import Derived.Test.YthjkdpphbipgfaaCloneO
import Derived.Test.YthjkdpphbipgfaaEdns
import Derived.Deep.DeepMust
namespace Go.Proofs.Ythjkdpphbipgfaa
open Go.RowKit Go.Lib

end Go.Proofs.Ythjkdpphbipgfaa

namespace Go.Proofs.Ythjkdpphbipgfaa
open Go.RowKit Go.Lib

/-- What is left. -/
def lefts (k : Int) (xs : List Opt) : List Opt := xs.filter fun o => !(Opt.is k o)
/-- A row of options of the call's own reads as options. -/
theorem otab_of_sl {w : World} {A : Option Addr} {c : Nat} {xs : List Opt} (h : Sl w 2 (.slice A xs.length c) xs.length (flatO xs)) (hok : ∀ e ∈ xs, e.ok) : OTab w A xs := by
  refine ⟨hok, fun hp => ?_⟩
  obtain ⟨g, cap, hv, hg, _, _, h4⟩ := h.form hp
  injection hv with hA _ _
  subst hA
  refine ⟨g, 0, rfl, hg, fun j e he i u hu => ?_⟩
  have := h4 (j * 2 + i) u (flatO_at xs j e i u he hu)
  simpa using this
theorem lefts_miss {k : Int} {xs : List Opt} (h : xs.find? (Opt.is k) = none) : lefts k xs = xs := by
  unfold lefts
  rw [List.filter_eq_self]
  intro o ho
  have := List.find?_eq_none.1 h o ho
  simpa using this

/-- What DeleteFunc gives back. -/
def DelPost (k : Int) (xs : List Opt) (v : Value) (w : World) (e : Ending) (w' : World) : Prop :=
  ∃ A c, e = .returned (.slice A (lefts k xs).length c) ∧ Sl w' 2 (.slice A (lefts k xs).length c) (lefts k xs).length (flatO (lefts k xs)) ∧
    (∀ g, (Value.slice A (lefts k xs).length c).ownBlock = some g → v.ownBlock = some g) ∧ KeepK (fun i => i < w.heap.size ∧ v.ownBlock ≠ some i) w w'

set_option maxRecDepth 100000 in
theorem delete_miss (xs : List Opt) (A : Option Addr) (c : Nat) (k : Int) (B : Nat) (w : World) (hok : ∀ e ∈ xs, e.ok) (hS : Sl w 2 (.slice A xs.length c) xs.length (flatO xs)) (hB : B < w.heap.size) (hk : w.cell? ⟨B, 0, none⟩ = some (.int .u16 k))
    (hbig : xs.length ≤ 9223372036854775807) (hm : xs.find? (Opt.is k) = none) :
    Calls Try.prog 53 #[.slice A xs.length c, .func (.func 85) #[] #[.pointer (some ⟨B, 0, none⟩)]] w (DelPost k xs (.slice A xs.length c) w) := by
  have hI := indexO_any xs A c k B w (otab_of_sl hS hok) hB hk hbig
  have h1 : idxP (Opt.is k) xs = -1 := by
    rcases idxP_cases (Opt.is k) xs with ⟨h, _⟩ | ⟨_, o, _, _, _, h⟩
    · exact h
    · rw [hm] at h; cases h
  rw [h1] at hI
  have HI := Lib.hid hI
  have HS := Lib.hid (And.intro hS (lefts_miss hm))
  clear hI h1 hS hk hB hok hm
  go_enter Try.func53, Try.ntmps53
  go_wp2_with (fail)
  with_reducible refine HI.out.mono ?_
  rintro e w1 ⟨rfl, hb⟩
  go_wp2_with (fail)
  go_ret
  refine ⟨A, c, ?_, ?_, ?_, ?_⟩
  · rw [HS.out.2]; rfl
  · rw [HS.out.2]; exact HS.out.1.below hb HS.out.1.lt
  · rw [HS.out.2]; exact fun g h => h
  · exact KeepK.of_below hb fun i hi => hi.1
end Go.Proofs.Ythjkdpphbipgfaa

namespace Go.Proofs.Ythjkdpphbipgfaa
open Go.RowKit Go.Lib

theorem lefts_snoc (k : Int) (xs : List Opt) {j : Nat} (hj : j < xs.length) : lefts k (xs.take (j + 1)) = if Opt.is k xs[j] = true then lefts k (xs.take j) else lefts k (xs.take j) ++ [xs[j]] := by
  unfold lefts
  rw [List.take_succ_eq_append_getElem hj, List.filter_append]
  cases h : Opt.is k xs[j] <;> simp [h]

theorem flatO_set : ∀ (Z : List Opt) (i : Nat) (o : Opt), flatO (Z.set i o) = ((flatO Z).set (i * 2) (.int .u16 o.c)).set (i * 2 + 1) (.string o.d)
  | [], i, o => by simp [flatO]
  | e :: Z, 0, o => by simp [flatO, Opt.vs]
  | e :: Z, i + 1, o => by
    have h1 : flatO (e :: Z) = .int .u16 e.c :: .string e.d :: flatO Z := rfl
    have h2 : flatO ((e :: Z).set (i + 1) o) = .int .u16 e.c :: .string e.d :: flatO (Z.set i o) := rfl
    rw [h1, h2, flatO_set Z i o, show (i + 1) * 2 = i * 2 + 1 + 1 by omega, List.set_cons_succ, List.set_cons_succ, List.set_cons_succ, List.set_cons_succ]
theorem mem_zeroCells {z : Array Value} {n : Nat} {v : Value} (h : v ∈ (Builtin.zeroCells z n).toList) : ∃ i, i < z.size ∧ v = z[i]! := by
  unfold Builtin.zeroCells at h
  rw [Array.mem_toList_iff, Array.mem_map] at h
  obtain ⟨i, hi, rfl⟩ := h
  rw [Array.mem_range] at hi
  have : 0 < z.size := by
    rcases Nat.eq_zero_or_pos z.size with h0 | h0
    · rw [h0] at hi; omega
    · exact h0
  exact ⟨i % z.size, Nat.mod_lt _ this, rfl⟩
theorem Sl.setO {w : World} {g n c : Nat} {Z : List Opt} (h : Sl w 2 (.slice (some ⟨g, 0, none⟩) n c) n (flatO Z)) (i : Nat) (hi : i < n) (o : Opt) :
    Sl ((w.setCell ⟨g, i * 2, none⟩ (.int .u16 o.c)).setCell ⟨g, i * 2 + 1, none⟩ (.string o.d)) 2 (.slice (some ⟨g, 0, none⟩) n c) n (flatO (Z.set i o)) := by
  rw [flatO_set]
  exact (h.set_ (g := g) rfl (i * 2) _ (by omega)).set_ (g := g) rfl (i * 2 + 1) _ (by omega)
theorem flatO_take (Z : List Opt) (m : Nat) : (flatO Z).take (m * 2) = flatO (Z.take m) := by
  have h := congrArg flatO (List.take_append_drop m Z)
  rw [flatO_append] at h
  rcases Nat.lt_or_ge m Z.length with hm | hm
  · rw [← h, List.take_append_of_le_length (by rw [flatO_length, List.length_take]; omega), List.take_of_length_le (by rw [flatO_length, List.length_take]; omega)]
  · rw [List.take_of_length_le (by rw [flatO_length]; omega), List.take_of_length_le hm]

set_option maxRecDepth 100000 in
set_option maxHeartbeats 2000000 in
theorem delete_hit (xs : List Opt) (g c : Nat) (k : Int) (B : Nat) (w : World) (hok : ∀ e ∈ xs, e.ok) (hS : Sl w 2 (.slice (some ⟨g, 0, none⟩) xs.length c) xs.length (flatO xs)) (hB : B < w.heap.size) (hBg : B ≠ g) (hk : w.cell? ⟨B, 0, none⟩ = some (.int .u16 k))
    (hbig : xs.length ≤ 4096) (p : Nat) (hp : p < xs.length) (hpi : idxP (Opt.is k) xs = (p : Int)) (hpk : Opt.is k xs[p] = true) (hpn : lefts k (xs.take p) = xs.take p) :
    Calls Try.prog 53 #[.slice (some ⟨g, 0, none⟩) xs.length c, .func (.func 85) #[] #[.pointer (some ⟨B, 0, none⟩)]] w (DelPost k xs (.slice (some ⟨g, 0, none⟩) xs.length c) w) := by
  have hI := indexO_any xs (some ⟨g, 0, none⟩) c k B w (otab_of_sl hS hok) hB hk (by omega)
  rw [hpi] at hI
  have HI := Lib.hid hI
  have HS := Lib.hid (And.intro hS (And.intro hok (And.intro hB (And.intro hBg hk))))
  have HP := Lib.hid (And.intro hp (And.intro hpk hpn))
  have hpI : (p : Int) ≤ 4096 := by omega
  have hlI : (xs.length : Int) ≤ 4096 := by omega
  clear hI hpi hS hk hB hok hBg hpk hpn
  go_enter Try.func53, Try.ntmps53
  go_wp2_with (fail)
  with_reducible refine HI.out.mono ?_
  rintro e w1 ⟨rfl, hb⟩
  have H1 := Lib.hid hb
  clear hb
  go_wp2_with (fail)
  go_loopg [5, 6] (xs.length - p) (fun gg v5 v6 wr => ∃ (i j : Nat) (Z : List Opt), gg + j = xs.length + 1 ∧ j ≤ xs.length ∧ v5 = .int .i64 (i : Int) ∧ v6 = .int .i64 (j : Int) ∧ i < j ∧ Aside (Z.length = xs.length) ∧ Aside (Z.take i = lefts k (xs.take j)) ∧ Aside (Z.drop j = xs.drop j) ∧ Aside (Sl wr 2 (.slice (some ⟨g, 0, none⟩) xs.length c) xs.length (flatO Z)) ∧ Aside (KeepK (fun i => i < w.heap.size ∧ i ≠ g) w wr))
  case atStart =>
    have hx := HP.out
    refine ⟨p, p + 1, xs, by have := HP.out.1; omega, by have := HP.out.1; omega, rfl, by go_num, by omega, rfl, ?_, rfl, HS.out.1.below H1.out HS.out.1.lt, KeepK.of_below H1.out fun i hi => hi.1⟩
    show _ = _
    rw [lefts_snoc k xs hx.1, if_pos hx.2.1, hx.2.2]
  case round =>
    obtain ⟨i, j, Z, hgj, hjl, rfl, rfl, hij, hZl, hZt, hZd, hSZ, hKZ⟩ := hrel
    by_cases hlt : j < xs.length
    · have hjI : (j : Int) < (xs.length : Int) := by omega
      have hiI : (i : Int) < (xs.length : Int) := by omega
      have hjb : (j : Int) ≤ 4096 := by omega
      have hZj : Z[j]? = some xs[j] := by
        have := congrArg (fun l => l[0]?) hZd.out
        simpa [List.getElem?_drop, List.getElem?_eq_getElem hlt] using this
      have c0 : wr.cell? ⟨g, j * 2, none⟩ = some (.int .u16 (xs[j]).c) := hSZ.out.cell rfl (flatO_at Z j _ 0 _ hZj rfl)
      have c1 : wr.cell? ⟨g, j * 2 + 1, none⟩ = some (.string (xs[j]).d) := hSZ.out.cell rfl (flatO_at Z j _ 1 _ hZj rfl)
      have hgl : g < wr.heap.size := hSZ.out.lt g rfl
      have hBk : (wr.alloc (.cells #[.int .u16 (xs[j]).c, .string (xs[j]).d] 92)).cell? ⟨B, 0, none⟩ = some (.int .u16 k) := by
        have h0 := HS.out.2.2.1
        have h1 := hKZ.out.size
        rw [World.cell?_alloc_lt _ _ _ (show B < wr.heap.size by omega), World.cell?_of_block (a := ⟨B, 0, none⟩) (hKZ.out.block B ⟨h0, HS.out.2.2.2.1⟩)]
        exact HS.out.2.2.2.2
      have hcall := coded1_any k (xs[j]).c (xs[j]).d B _ (by have := HS.out.2.2.1; have := hKZ.out.size; simp; omega) hBk
      have HX := Lib.hid (And.intro hlt hij)
      have HC := Lib.hid hcall
      cases hq : Opt.is k xs[j] with
      | true =>
        have hq2 : ((xs[j]).c == k) = true := hq
        rw [hq2] at HC
        clear hcall hBk hZj
        go_wp2_with (fail)
        with_reducible refine HC.out.mono ?_
        rintro e w2 ⟨rfl, hb⟩
        go_wp2_with (fail)
        go_roundg (xs.length - j)
        case measure => have := HX.out; omega
        case rel =>
          have hx := HX.out
          refine ⟨i, j + 1, Z, by omega, by omega, rfl, by go_num, by omega, hZl.out, ?_, ?_, (hSZ.out.alloc _).below hb (hSZ.out.alloc _).lt, (hKZ.out.alloc (fun i hi => by have := hKZ.out.size; omega) _).trans (KeepK.of_below hb fun i hi => by have := hKZ.out.size; simp; omega)⟩
          · show _ = _
            rw [lefts_snoc k xs hx.1, if_pos hq]; exact hZt.out
          · show _ = _
            rw [← List.drop_drop, ← List.drop_drop, hZd.out]
      | false =>
        have hq2 : ((xs[j]).c == k) = false := hq
        rw [hq2] at HC
        clear hcall hBk hZj
        go_wp2_with (fail)
        with_reducible refine HC.out.mono ?_
        rintro e w2 ⟨rfl, hb⟩
        have hS2 := (hSZ.out.alloc (.cells #[.int .u16 (xs[j]).c, .string (xs[j]).d] 92)).below hb (hSZ.out.alloc _).lt
        have hbx := ((Blk.new wr 92 #[.int .u16 (xs[j]).c, .string (xs[j]).d]).below hb (by simp))
        have d0 := hbx.cell 0
        have d1 := hbx.cell 1
        have f0 := hS2.free (g := g) rfl (j := i * 2) (by omega)
        have f1 := hS2.free (g := g) rfl (j := i * 2 + 1) (by omega)
        have hgl2 := hS2.lt g rfl
        obtain ⟨oi, hoi⟩ : ∃ oi, Z[i]? = some oi := ⟨_, List.getElem?_eq_getElem (by have := hZl.out; omega)⟩
        have e0 : w2.cell? ⟨g, i * 2, none⟩ = some (.int .u16 oi.c) := hS2.cell rfl (flatO_at Z i _ 0 _ hoi rfl)
        have e1 : w2.cell? ⟨g, i * 2 + 1, none⟩ = some (.string oi.d) := hS2.cell rfl (flatO_at Z i _ 1 _ hoi rfl)
        go_wp2_with (fail)
        go_roundg (xs.length - j)
        case measure => have := HX.out; omega
        case rel =>
          have hx := HX.out
          have hKw : KeepK (fun i => i < w.heap.size ∧ i ≠ g) w w2 := (hKZ.out.alloc (fun i hi => by have := hKZ.out.size; omega) _).trans (KeepK.of_below hb fun i hi => by have := hKZ.out.size; simp; omega)
          refine ⟨i + 1, j + 1, Z.set i xs[j], by omega, by omega, by go_num, by go_num, by omega, ?_, ?_, ?_, hS2.setO i (by omega) xs[j], (hKw.setCell (fun i hi => hi.2) _).setCell (fun i hi => hi.2) _⟩
          · show _ = _
            rw [List.length_set]; exact hZl.out
          · show _ = _
            rw [lefts_snoc k xs hx.1, if_neg (by rw [hq]; simp), ← hZt.out, List.take_succ_eq_append_getElem (by rw [List.length_set, hZl.out]; omega), List.getElem_set_self, List.take_set_of_le (Nat.le_refl _)]
          · show _ = _
            rw [List.drop_set_of_lt (by omega), ← List.drop_drop, ← List.drop_drop, hZd.out]
    · obtain rfl : j = xs.length := by omega
      have hic : i < c := by
        rcases hSZ.out.2 with ⟨hv, _⟩ | ⟨g', cap, hv, _, h1, _⟩
        · cases hv
        · injection hv with _ _ e3
          omega
      have hne : ¬ c = i := by omega
      have hzl : (Builtin.zeroCells (Value.agg #[.int .u16 0, .string ⟨#[]⟩]).cells (xs.length - i)).toList.length = (xs.length - i) * 2 := by
        rw [Array.length_toList, size_zeroCells]; rfl
      have hcl : (Builtin.clear_ #[43] 0 #[.slice (some ⟨g, i * 2, none⟩) (xs.length - i) (c - i)]).run Try.prog wr = .ok (.tuple #[]) (wr.setCells g (i * 2) (Builtin.zeroCells (Value.agg #[.int .u16 0, .string ⟨#[]⟩]).cells (xs.length - i)).toList) := by
        refine run_clear_any (P := Try.prog) wr _ 92 0 _ Try.underlying43 (fun w => ?_) g (i * 2) (xs.length - i) (c - i) (by omega) (fun v hv => ?_) (fun j hj => ?_) (fun j hj => ?_)
        · rfl
        · obtain ⟨q, hq, rfl⟩ := mem_zeroCells hv
          match q, hq with
          | 0, _ => rfl
          | 1, _ => rfl
        · rw [hzl] at hj
          obtain ⟨o, ho⟩ : ∃ o, (flatO Z)[i * 2 + j]? = some o := ⟨_, List.getElem?_eq_getElem (by rw [flatO_length, hZl.out]; omega)⟩
          rw [hSZ.out.cell (g := g) rfl ho]; rfl
        · rw [hzl] at hj
          exact hSZ.out.free (g := g) rfl (by omega)
      have hiI : (i : Int) < (xs.length : Int) := by omega
      have HZ := Lib.hid hzl
      have HX := Lib.hid hij
      clear hzl
      go_wp2_with (fail)
      go_ret
      have hzl := HZ.out
      have hij := HX.out
      have hlz : (lefts k xs).length = i := by
        have := hZt.out
        rw [List.take_length] at this
        rw [← this, List.length_take, hZl.out]; omega
      have hcut := hSZ.out.cut i (by omega) (Builtin.zeroCells (Value.agg #[.int .u16 0, .string ⟨#[]⟩]).cells (xs.length - i)).toList (by rw [hzl]; omega)
      have hf : (flatO Z).take (i * 2) = flatO (lefts k xs) := by
        rw [flatO_take, hZt.out, List.take_length]
      rw [hf] at hcut
      refine ⟨some ⟨g, 0, none⟩, c, ?_, ?_, ?_, ?_⟩
      · rw [hlz]; rfl
      · rw [hlz]; exact hcut
      · intro g' hg'
        exact hg'
      · have hgs : ∀ q, ¬ (Value.slice (some ⟨g, 0, none⟩) (xs.length : Nat) c).ownBlock = some q → q ≠ g := fun q hq e => hq (by rw [e]; rfl)
        have hsz := hKZ.out.size
        exact (hKZ.out.mono fun q hq => ⟨hq.1, hgs q hq.2⟩).setCells g _ _ fun q hq => ⟨Nat.lt_of_lt_of_le hq.1 hsz, hgs q hq.2⟩
end Go.Proofs.Ythjkdpphbipgfaa

namespace Go.Proofs.Ythjkdpphbipgfaa
open Go.RowKit Go.Lib

theorem lefts_before {k : Int} {xs : List Opt} {p : Nat} (h : ∀ j (hj : j < xs.length), j < p → Opt.is k xs[j] = false) : lefts k (xs.take p) = xs.take p := by
  unfold lefts
  rw [List.filter_eq_self]
  intro o ho
  obtain ⟨j, hj, rfl⟩ := List.getElem_of_mem ho
  rw [List.length_take] at hj
  rw [List.getElem_take, h j (by omega) (by omega)]
  rfl

theorem delete_any (xs : List Opt) (A : Option Addr) (c : Nat) (k : Int) (B : Nat) (w : World) (hok : ∀ e ∈ xs, e.ok) (hS : Sl w 2 (.slice A xs.length c) xs.length (flatO xs)) (hB : B < w.heap.size) (hBg : (Value.slice A xs.length c).ownBlock ≠ some B)
    (hk : w.cell? ⟨B, 0, none⟩ = some (.int .u16 k)) (hbig : xs.length ≤ 4096) :
    Calls Try.prog 53 #[.slice A xs.length c, .func (.func 85) #[] #[.pointer (some ⟨B, 0, none⟩)]] w (DelPost k xs (.slice A xs.length c) w) := by
  cases h : xs.findIdx? (Opt.is k) with
  | none =>
    rw [List.findIdx?_eq_none_iff] at h
    exact delete_miss xs A c k B w hok hS hB hk (by omega) (List.find?_eq_none.2 fun x hx => by rw [h x hx]; simp)
  | some p =>
    have hi : idxP (Opt.is k) xs = (p : Int) := by unfold idxP; rw [h]
    rw [List.findIdx?_eq_some_iff_getElem] at h
    obtain ⟨hp, hpk, hn⟩ := h
    obtain ⟨g, cap, hv, hg, _⟩ := hS.form (by omega)
    injection hv with hA _ _
    subst hA
    refine delete_hit xs g c k B w hok hS hB (fun e => hBg (by rw [e]; rfl)) hk hbig p hp hi hpk (lefts_before fun j hj hjp => ?_)
    have := hn j hjp
    simpa using this

theorem src_two {P : Program} {tx e' : TypeId} (hk : P.underlying tx = some (.slice e')) (w : World) (t : TypeId) (u v : Value) (h1 : u.oneCell' = true) (h2 : v.oneCell' = true) : Src P 2 tx (.slice (some ⟨w.heap.size, 0, none⟩) 1 1) 1 [u, v] (w.alloc (.cells #[u, v] t)) :=
  Src.ofSlice _ hk ⟨w.heap.size, 0, none⟩ 1 1 [u, v] rfl (fun j x hx => by
    match j, hx with
    | 0, hx =>
      have : u = x := by simpa using hx
      subst this
      simp [Addr.add]
    | 1, hx =>
      have : v = x := by simpa using hx
      subst this
      simp [Addr.add]
    | j + 2, hx => simp at hx) (fun x hx => by
      rcases List.mem_cons.1 hx with rfl | hx
      · exact h1
      · rw [List.mem_singleton.1 hx]; exact h2)

/-- What With puts in. -/
def withO (xs : List Opt) (c s : ByteArray) : List Opt := lefts 10 xs ++ [⟨10, c ++ s⟩]

set_option maxRecDepth 100000 in
theorem With_no (th : Bool) (sz hi ve fl : Int) (A : Option Addr) (xs : List Opt) (m : Nat) (c s : ByteArray) (hc : c.size ≤ maxLen) (hs : s.size ≤ maxLen) (w : World) (hr : rightB c s = false) :
    Calls Try.prog 24 #[.agg #[.bool th, .int .u16 sz, .int .u8 hi, .int .u8 ve, .int .u16 fl, .slice A xs.length m], .string c, .string s] w fun e w' =>
      e = .returned (.tuple #[.agg #[.bool false, .int .u16 0, .int .u8 0, .int .u8 0, .int .u16 0, .slice none 0 0], .int .i64 2]) ∧ Below w.heap.size w w' := by
  have hR := fun w => right_any c s hc hs w
  rw [hr] at hR
  clear hr hc hs
  go_enter Try.func24, Try.ntmps24
  go_wp2_with (fail)
  with_reducible refine (hR _).mono ?_
  rintro e w' ⟨rfl, rfl⟩
  go_wp2_with (fail)
  refine bodyPost_ret (v := .tuple #[.agg #[.bool false, .int .u16 0, .int .u8 0, .int .u8 0, .int .u16 0, .slice none 0 0], .int .i64 2]) (by simp [results, Try.results24, go_sem]) rfl ⟨rfl, ?_⟩
  exact ((Below.refl _ _).alloc (Nat.le_refl _) _).alloc (by simp) _

set_option maxRecDepth 100000 in
set_option maxHeartbeats 2000000 in
theorem With_yes (th : Bool) (sz hi ve fl : Int) (A : Option Addr) (xs : List Opt) (m : Nat) (c s : ByteArray) (hc : c.size ≤ maxLen) (hs : s.size ≤ maxLen) (w : World) (hT : OTab w A xs) (hn : xs.length ≤ 4000) (hr : rightB c s = true) :
    Calls Try.prog 24 #[.agg #[.bool th, .int .u16 sz, .int .u8 hi, .int .u8 ve, .int .u16 fl, .slice A xs.length m], .string c, .string s] w fun e w' =>
      ∃ A' m', e = .returned (.tuple #[.agg #[.bool true, .int .u16 sz, .int .u8 hi, .int .u8 ve, .int .u16 fl, .slice A' (withO xs c s).length m'], .int .i64 0]) ∧ OTab w' A' (withO xs c s) ∧ Below w.heap.size w w' := by
  have hR := fun w => right_any c s hc hs w
  rw [hr] at hR
  have HR := Lib.hid hr
  have HT := Lib.hid hT
  clear hr hT
  go_enter Try.func24, Try.ntmps24
  go_wp2_with (fail)
  with_reducible refine (hR _).mono ?_
  rintro e w' ⟨rfl, rfl⟩
  go_wp2_with (fail)
  have HT3 : RowKit.Hid (OTab (((w.alloc (.cells #[.bool th, .int .u16 sz, .int .u8 hi, .int .u8 ve, .int .u16 fl, .slice A xs.length m] 45)).alloc (.cells #[.bool false, .int .u16 0, .int .u8 0, .int .u8 0, .int .u16 0, .slice none 0 0] 45)).alloc (.cells #[.bool true, .int .u16 sz, .int .u8 hi, .int .u8 ve, .int .u16 fl, .slice A xs.length m] 45)) A xs) :=
    Lib.hid (HT.out.below ((((Below.refl _ _).alloc (Nat.le_refl _) _).alloc (by simp) _).alloc (by simp; omega) _))
  with_reducible refine (cloneO_any xs A m _ HT3.out (by omega)).mono ?_
  rintro e w1 ⟨v1, rfl, hown, hb1⟩
  have hsl := Sl.of_own hown
  obtain ⟨A1, c1, rfl, hc1, hc2⟩ := hsl.shape
  have hge : ∀ g, (Value.slice A1 xs.length c1).ownBlock = some g → w.heap.size + 3 ≤ g := by
    intro g hg
    rcases hown.2 with ⟨hv, _⟩ | ⟨g', cap, cur, hv, hb, _⟩
    · injection hv with hA
      subst hA
      simp [Value.ownBlock] at hg
    · injection hv with hA
      subst hA
      simp [Value.ownBlock] at hg
      simp at hb
      omega
  have hb0 : Below w.heap.size w w1 := ((((Below.refl _ _).alloc (Nat.le_refl _) _).alloc (by simp) _).alloc (by simp; omega) _).trans (hb1.mono (by simp; omega))
  have B6 := ((Blk.new (w.alloc (.cells #[.bool th, .int .u16 sz, .int .u8 hi, .int .u8 ve, .int .u16 fl, .slice A xs.length m] 45)) 45 #[.bool false, .int .u16 0, .int .u8 0, .int .u8 0, .int .u16 0, .slice none 0 0]).alloc (.cells #[.bool true, .int .u16 sz, .int .u8 hi, .int .u8 ve, .int .u16 fl, .slice A xs.length m] 45)).below hb1 (by simp)
  have B8 := (Blk.new ((w.alloc (.cells #[.bool th, .int .u16 sz, .int .u8 hi, .int .u8 ve, .int .u16 fl, .slice A xs.length m] 45)).alloc (.cells #[.bool false, .int .u16 0, .int .u8 0, .int .u8 0, .int .u16 0, .slice none 0 0] 45)) 45 #[.bool true, .int .u16 sz, .int .u8 hi, .int .u8 ve, .int .u16 fl, .slice A xs.length m]).below hb1 (by simp)
  have hsz1 : w.heap.size + 3 ≤ w1.heap.size := by have := hb1.size; simp at this; omega
  simp only [World.size_alloc] at B6 B8
  have hd := delete_any xs A1 c1 10 w1.heap.size (w1.alloc (.cells #[.int .u16 10] 22)) HT.out.1 (hsl.alloc _) (by simp) (fun e => by have := hsl.lt _ e; omega) (by simp) (by omega)
  have HD := Lib.hid hd
  have HF := Lib.hid (And.intro hge (And.intro hb0 (And.intro hsz1 (And.intro B6 B8))))
  clear hd hge hb0 B6 B8 hown hsl hb1 hc1 hc2 HT3
  go_wp2_with (fail)
  with_reducible refine (coded_any 10 w1).mono ?_
  rintro e w2 ⟨rfl, rfl⟩
  go_wp2_with (fail)
  with_reducible refine HD.out.mono ?_
  rintro e w2 ⟨A2, c2, rfl, hS2, hown2, hK2⟩
  have hx := HF.out
  have hk6 : Blk w2 _ _ _ := (hx.2.2.2.1.alloc _).keepK hK2 ⟨by simp; omega, fun e => by have := hx.1 _ e; omega⟩
  have hk8 : Blk w2 _ _ _ := (hx.2.2.2.2.alloc _).keepK hK2 ⟨by simp; omega, fun e => by have := hx.1 _ e; omega⟩
  have c80 := hk8.cell 0
  have c81 := hk8.cell 1
  have c82 := hk8.cell 2
  have c83 := hk8.cell 3
  have c84 := hk8.cell 4
  have c85 := hk8.cell 5
  have f85 := hk8.frozen 5
  have c60 := hk6.cell 0
  have c61 := hk6.cell 1
  have c62 := hk6.cell 2
  have c63 := hk6.cell 3
  have c64 := hk6.cell 4
  have c65 := hk6.cell 5
  have f60 := hk6.frozen 0
  have f61 := hk6.frozen 1
  have f62 := hk6.frozen 2
  have f63 := hk6.frozen 3
  have f64 := hk6.frozen 4
  have f65 := hk6.frozen 5
  have hs2 := hk8.lt
  have hcs : c.size + s.size ≤ 9223372036854775807 := by
    have := HR.out
    simp only [rightB, Bool.and_eq_true, beq_iff_eq, Bool.or_eq_true, decide_eq_true_eq] at this
    omega
  have hlx : (lefts 10 xs).length ≤ xs.length := List.length_filter_le _ _
  obtain ⟨i0, hi0, hz0, hz1, hz2⟩ := info_parts info_opt
  have hSL : Sl ((w2.setCell ⟨w.heap.size + 1 + 1, 5, none⟩ (.slice A2 (lefts 10 xs).length c2)).alloc (.cells #[.int .u16 10, .string (c ++ s)] 92)) 2 (.slice A2 (lefts 10 xs).length c2) (lefts 10 xs).length (flatO (lefts 10 xs)) :=
    (hS2.far (p := ⟨w.heap.size + 1 + 1, 5, none⟩) (fun g hg => by have := hx.1 g (hown2 g hg); show g ≠ w.heap.size + 1 + 1; omega) _).alloc _
  have hSR := src_two (P := Try.prog) Try.underlying43 (w2.setCell ⟨w.heap.size + 1 + 1, 5, none⟩ (.slice A2 (lefts 10 xs).length c2)) 92 (.int .u16 10) (.string (c ++ s)) rfl rfl
  rw [show (w2.setCell ⟨w.heap.size + 1 + 1, 5, none⟩ (.slice A2 (lefts 10 xs).length c2)).heap.size = w2.heap.size by simp [World.setCell]] at hSR
  have HS := Lib.hid (And.intro hS2 (And.intro hown2 (And.intro hK2 (And.intro hk6 hk8))))
  have HSL := Lib.hid hSL
  have HSR := Lib.hid hSR
  clear hS2 hown2 hK2 hk6 hk8 hx hc hs hSL hSR
  go_wp2_with (at_builtin; go_must (refine wpList_append_sl _ rfl (.tmp 23) (.tmp 28) 43 43 rfl 92 i0 (.agg #[.int .u16 0, .string ⟨#[]⟩]) 2 24 Try.underlying43 hi0 hz0 hz1 hz2 rfl (.slice A2 (lefts 10 xs).length c2) (lefts 10 xs).length (flatO (lefts 10 xs)) rfl HSL.out _ rfl 1 [.int .u16 10, .string (c ++ s)] HSR.out (by unfold maxLen; omega) (by omega) ?_); intro v3 w3 hs3 hg3 hv3; obtain ⟨A3, c3, rfl, hc3, hm3⟩ := hs3.shape; have hx := HF.out; have hy := HS.out; have hsz3 := hg3.size; have k8 : Blk w3 (w.heap.size + 1 + 1) 45 _ := ((hy.2.2.2.2.set_ 5 (.slice A2 (lefts 10 xs).length c2)).alloc _).grown hg3 (fun e => by have := hx.1 _ (hy.2.1 _ e.symm); omega); have k6 : Blk w3 (w.heap.size + 1) 45 _ := ((hy.2.2.2.1.far (p := ⟨w.heap.size + 1 + 1, 5, none⟩) (by simp) (.slice A2 (lefts 10 xs).length c2)).alloc _).grown hg3 (fun e => by have := hx.1 _ (hy.2.1 _ e.symm); omega); have g80 := k8.cell 0; have g81 := k8.cell 1; have g82 := k8.cell 2; have g83 := k8.cell 3; have g84 := k8.cell 4; have g85 := k8.cell 5; have p85 := k8.frozen 5; have g60 := k6.cell 0; have g61 := k6.cell 1; have g62 := k6.cell 2; have g63 := k6.cell 3; have g64 := k6.cell 4; have g65 := k6.cell 5; have p60 := k6.frozen 0; have p61 := k6.frozen 1; have p62 := k6.frozen 2; have p63 := k6.frozen 3; have p64 := k6.frozen 4; have p65 := k6.frozen 5; have hlt3 := k8.lt; have H3 := Lib.hid (And.intro hs3 (And.intro hg3 (And.intro hv3 (And.intro k6 k8)))); clear hs3 hg3 hv3 k6 k8 hx hy hsz3 hc3 hm3)
  have h3 := H3.out
  have hx := HF.out
  have hy := HS.out
  have hsz2 := hy.2.2.1.size
  simp only [World.size_alloc] at hsz2
  have hown3 : ∀ g, (Value.slice A3 ((lefts 10 xs).length + 1) c3).ownBlock = some g → w.heap.size + 3 ≤ g := fun g hg => by
    rcases h3.2.2.1 with e | e
    · exact hx.1 g (hy.2.1 g (e.symm.trans hg))
    · rw [hg] at e
      have := Option.some.inj e
      simp [World.setCell] at this
      omega
  have hlen : (withO xs c s).length = (lefts 10 xs).length + 1 := by unfold withO; rw [List.length_append]; rfl
  have hfl : flatO (withO xs c s) = flatO (lefts 10 xs) ++ [.int .u16 10, .string (c ++ s)] := by unfold withO; rw [flatO_append]; rfl
  refine bodyPost_ret (v := .tuple #[.agg #[.bool true, .int .u16 sz, .int .u8 hi, .int .u8 ve, .int .u16 fl, .slice A3 ((lefts 10 xs).length + 1) c3], .int .i64 0]) (by simp [results, Try.results24, go_sem, g60, g61, g62, g63, g64, g65]) rfl ⟨A3, c3, by rw [hlen], otab_of_sl (c := c3) ?_ ?_, ?_⟩
  · rw [hlen, hfl]
    have hs3 := h3.1
    have n8 : ∀ g, (Value.slice A3 ((lefts 10 xs).length + 1) c3).ownBlock = some g → g ≠ w.heap.size + 1 + 1 := fun g hg => by have := hown3 g hg; omega
    have n6 : ∀ g, (Value.slice A3 ((lefts 10 xs).length + 1) c3).ownBlock = some g → g ≠ w.heap.size + 1 := fun g hg => by have := hown3 g hg; omega
    exact ((((((hs3.far n8 _).far n6 _).far n6 _).far n6 _).far n6 _).far n6 _).far n6 _
  · intro e he
    rcases List.mem_append.1 he with he | he
    · exact HT.out.1 e (List.mem_filter.1 he).1
    · rw [List.mem_singleton.1 he]
      refine ⟨⟨by show (0 : Int) ≤ 10; omega, by show (10 : Int) ≤ 65535; omega⟩, ?_⟩
      show (c ++ s).size ≤ maxLen
      rw [ByteArray.size_append]
      unfold maxLen
      omega
  · have k1 : Below w.heap.size w w2 := (hx.2.1.alloc (by have := hx.2.2.1; omega) _).trans (hy.2.2.1.below fun i hi => ⟨by simp; omega, fun e => by have := hx.1 _ e; omega⟩)
    have k2 : Below w.heap.size w w3 := ((k1.setCell (p := ⟨w.heap.size + 1 + 1, 5, none⟩) (by show w.heap.size ≤ w.heap.size + 1 + 1; omega) (.slice A2 (lefts 10 xs).length c2)).alloc (by simp [World.setCell]; omega) (.cells #[.int .u16 10, .string (c ++ s)] 92)).grown h3.2.1 (by simp [World.setCell]; omega) (fun g hg => by have := hx.1 _ (hy.2.1 _ hg); omega)
    have m6 : w.heap.size ≤ w.heap.size + 1 := by omega
    exact ((((((k2.setCell (p := ⟨w.heap.size + 1 + 1, 5, none⟩) (by show w.heap.size ≤ w.heap.size + 1 + 1; omega) _).setCell m6 _).setCell m6 _).setCell m6 _).setCell m6 _).setCell m6 _).setCell m6 _
end Go.Proofs.Ythjkdpphbipgfaa

namespace Go.Proofs.Ythjkdpphbipgfaa
open Go.RowKit Go.Lib

theorem ext_left (c s : ByteArray) (n : Nat) (h : c.size = n) : (c ++ s).extract 0 n = c := by
  subst h
  rw [ByteArray.ext_iff]
  simp
theorem ext_right (c s : ByteArray) (n : Nat) (h : c.size = n) : (c ++ s).extract n (c ++ s).size = s := by
  subst h
  rw [ByteArray.ext_iff, ByteArray.data_extract, ByteArray.data_append, ByteArray.size_append]
  show (c.data ++ s.data).extract c.data.size (c.data.size + s.data.size) = s.data
  rw [Array.extract_append]
  have h1 : c.data.extract c.data.size (c.data.size + s.data.size) = #[] := by
    apply Array.ext'
    rw [Array.toList_extract, List.extract_eq_take_drop, ← Array.length_toList, List.drop_length]
    simp
  rw [h1, Nat.sub_self, Nat.add_sub_cancel_left, Array.extract_size, Array.empty_append]
theorem ba_empty {s : ByteArray} (h : s.size = 0) : s = ⟨#[]⟩ := by
  rw [ByteArray.ext_iff]
  exact Array.eq_empty_of_size_eq_zero h
/-- What was put in is had. -/
theorem ckR_with (os : List Opt) (c s : ByteArray) (hr : rightB c s = true) : ckR (withO os c s) = (c, s, 0) := by
  have hf : (withO os c s).find? (Opt.is 10) = some ⟨10, c ++ s⟩ := by
    unfold withO
    rw [List.find?_append]
    have : (lefts 10 os).find? (Opt.is 10) = none := List.find?_eq_none.2 fun x hx => by
      have := (List.mem_filter.1 hx).2
      simpa using this
    rw [this]
    rfl
  have h8 : c.size = 8 := by
    simp only [rightB, Bool.and_eq_true, beq_iff_eq] at hr
    exact hr.1
  have hm : min (c ++ s).size 8 = 8 := by rw [ByteArray.size_append]; omega
  have hC : ckC (c ++ s) = c := by unfold ckC; rw [hm]; exact ext_left c s 8 h8
  have hS : ckS (c ++ s) = s := by unfold ckS; rw [hm]; exact ext_right c s 8 h8
  rw [ckR_of hf hC hS, if_pos hr]
end Go.Proofs.Ythjkdpphbipgfaa
