/- The document's answers of layer 35. Conditions: none. -/
import Derived.Test.YtkdijafnakpfhaaWheelO
import Derived.BigQuiet
namespace Go.Proofs.Ytkdijafnakpfhaa
open Go.RowKit Go.Lib

/-- The list v lies at the slice. -/
def TS (w : World) (A : Option Addr) (c : Nat) (v : List Th) : Prop := Sl w 2 (.slice A v.length c) v.length (flatV Th.vs v)
theorem TS.below {w w' : World} {A : Option Addr} {c : Nat} {v : List Th} (h : TS w A c v) (hb : Below w.heap.size w w') : TS w' A c v := Sl.below h hb h.lt
theorem TS.at_ {w : World} {A : Option Addr} {c : Nat} {v : List Th} (h : TS w A c v) {k : Nat} (hk : k < v.length) :
    ∃ q, A = some ⟨q, 0, none⟩ ∧ q < w.heap.size ∧ w.cell? ⟨q, k * 2, none⟩ = some (.int .i64 (ath v k).id) ∧ w.cell? ⟨q, k * 2 + 1, none⟩ = some (.int .i64 (ath v k).t) := by
  obtain ⟨q, cap, hv, hq, _, _, hc⟩ := Sl.form h (by omega)
  injection hv with hA _ _
  subst hA
  exact ⟨q, rfl, hq, hc _ _ (by simpa using flatV_at Th.two v k _ 0 _ (get_ath hk) rfl), hc _ _ (flatV_at Th.two v k _ 1 _ (get_ath hk) rfl)⟩

set_option maxRecDepth 100000 in
set_option maxHeartbeats 4000000 in
theorem same35_any (xs : List Th) (A B : Option Addr) (c d : Nat) (w : World) (hA : Sl w 1 (.slice A xs.length c) xs.length (xs.map idV)) (hB : Sl w 1 (.slice B xs.length d) xs.length (xs.map idV)) (hn : xs.length ≤ 1000) :
    Calls Try.prog 12 #[.slice A xs.length c, .slice B xs.length d] w fun e w' => e = .returned (.bool true) ∧ Below w.heap.size w w' := by
  have HA := Lib.hid (And.intro hA hB)
  have hlI : (xs.length : Int) ≤ 1000 := by omega
  have hnn : ((xs.length : Int) != (xs.length : Int)) = false := by simp
  clear hA hB
  go_enter Try.func12, Try.ntmps12
  go_wp2_with (fail)
  go_loopg [5, 13] xs.length (fun g _ v wr => ∃ k : Nat, g + k = xs.length ∧ v = .int .i64 (k : Int) ∧ ∃ m, wr = w.drewN m)
  case atStart => exact ⟨0, by omega, rfl, 0, rfl⟩
  case round =>
    obtain ⟨k, hg, rfl, m, rfl⟩ := hrel
    by_cases hlt : k < xs.length
    · obtain ⟨x, hx⟩ : ∃ x, xs[k]? = some x := ⟨_, List.getElem?_eq_getElem hlt⟩
      have hx2 : (xs.map idV)[k]? = some (.int .i64 x.id) := by rw [List.getElem?_map, hx]; rfl
      obtain ⟨a, cap, hv, hal, _, _, hac⟩ := HA.out.1.form (by omega)
      injection hv with hv _ hcc
      subst hv
      subst hcc
      obtain ⟨b, cap', hv, hbl, _, _, hbc⟩ := HA.out.2.form (by omega)
      injection hv with hv _ hcc
      subst hv
      subst hcc
      have a0 : w.cell? ⟨a, k, none⟩ = some (.int .i64 x.id) := hac k _ hx2
      have b0 : w.cell? ⟨b, k, none⟩ = some (.int .i64 x.id) := hbc k _ hx2
      have hq : ((x.id : Int) != x.id) = false := by simp
      have hltI : (k : Int) < (xs.length : Int) := by omega
      have hkI : (k : Int) ≤ 1000 := by omega
      clear hac hbc hx hx2
      generalize hV : w.drewN m = V
      have a0 : V.cell? ⟨a, k, none⟩ = some (.int .i64 x.id) := by rw [← hV]; exact a0
      have b0 : V.cell? ⟨b, k, none⟩ = some (.int .i64 x.id) := by rw [← hV]; exact b0
      have HV := Lib.hid hV
      clear hV
      go_wp2_with (fail)
      go_quiet (fail)
      go_wp2_with (fail)
      go_roundg (xs.length - (k + 1))
      case measure => omega
      case rel => exact ⟨k + 1, by omega, by go_num, m + nq, by rw [← HV.out, World.drewN_drewN]⟩
    · obtain rfl : k = xs.length := by omega
      go_wp2_with (fail)
      go_ret
      exact ⟨rfl, below_drewN (Below.refl _ _) _⟩

/-- What the document's Drop leaves. -/
def ListP (w : World) (o : Option Nat) (v : List Th) (b : Bool) (e : Ending) (w' : World) : Prop :=
  ∃ A c, e = .returned (.tuple #[.slice A v.length c, .bool b]) ∧ TS w' A c v ∧ (∀ p, (Value.slice A v.length c).ownBlock = some p → o = some p ∨ w.heap.size ≤ p) ∧ Below w.heap.size w w'
def ListF (w : World) (v : List Th) (b : Bool) (e : Ending) (w' : World) : Prop :=
  ∃ A c, e = .returned (.tuple #[.slice A v.length c, .bool b]) ∧ TS w' A c v ∧ (∀ g, (Value.slice A v.length c).ownBlock = some g → w.heap.size ≤ g) ∧ Below w.heap.size w w'
theorem info_thing : (Try.prog.info? 59).map (fun i => (i.zero, i.size, i.bytes)) = some (some (.agg #[.int .i64 0, .int .i64 0]), 2, 16) := by kernel_rfl
theorem drop_step35 {v : List Th} {k : Nat} {x : Th} (hx : v[k]? = some x) (id : Int) : dropV (v.take (k + 1)) id = dropV (v.take k) id ++ (if x.id = id then [] else [x]) := by
  rw [show v.take (k + 1) = v.take k ++ [x] from by rw [List.take_add_one, hx]; rfl]
  unfold dropV
  rw [List.filter_append]
  by_cases h : x.id = id <;> simp [h]
theorem drop_le (v : List Th) (id : Int) : (dropV v id).length ≤ v.length := List.length_filter_le _ _
theorem drop_lt_iff (v : List Th) (id : Int) : (dropV v id).length < v.length ↔ hasId v id = true := by
  unfold dropV
  rw [List.length_filter_lt_length_iff_exists, hasId_iff]
  simp
theorem drop_lt (v : List Th) (id : Int) : decide ((dropV v id).length < v.length) = hasId v id := by
  have h := drop_lt_iff v id
  cases hh : hasId v id with
  | true => rw [hh] at h; exact decide_eq_true (by have := h.2 rfl; omega)
  | false => rw [hh] at h; exact decide_eq_false (fun k => by have := h.1 (by omega); cases this)

set_option maxRecDepth 100000 in
set_option maxHeartbeats 4000000 in
theorem rDrop35_any {w : World} {A : Option Addr} {c : Nat} {v : List Th} (h : TS w A c v) (hl : v.length ≤ 1000) (id : Int) :
    Calls Try.prog 9 #[.slice A v.length c, .int .i64 id] w (ListF w (dropV v id) (hasId v id)) := by
  obtain ⟨i0, hi0, hz0, hz1, hz2⟩ := info_parts info_thing
  have HT := Lib.hid (And.intro h hl)
  have hlI : (v.length : Int) ≤ 1000 := by omega
  clear h hl
  go_enter Try.func9, Try.ntmps9
  go_wp2_with (fail)
  go_loopg [6, 11] (v.length + 1) (fun gg v6 v11 wr => ∃ (k n c2 : Nat) (A2 : Option Addr), v11 = .int .i64 (k : Int) ∧ v6 = .slice A2 n c2 ∧ k ≤ v.length ∧ Aside (gg + k = v.length + 1) ∧
    Aside (n = (dropV (v.take k) id).length ∧ Sl wr 2 (.slice A2 n c2) n (flatV Th.vs (dropV (v.take k) id)) ∧ (∀ g, (Value.slice A2 n c2).ownBlock = some g → w.heap.size ≤ g) ∧ Below w.heap.size w wr))
  case atStart => exact ⟨0, 0, 0, none, rfl, rfl, by omega, rfl, rfl, Sl.nil _ _, fun g hg => by simp [Value.ownBlock] at hg, Below.refl _ _⟩
  case round =>
    obtain ⟨k, n, c2, A2, rfl, rfl, hk, hg, hI⟩ := hrel
    by_cases hlt : k < v.length
    · obtain ⟨q, rfl, hql, d0', d1'⟩ := HT.out.1.at_ hlt
      have hltI : (k : Int) < (v.length : Int) := by omega
      have HP := Lib.hid (drop_step35 (get_ath hlt) id)
      obtain ⟨x, hx⟩ : ∃ x, ath v k = x := ⟨_, rfl⟩
      rw [hx] at d0' d1' HP
      have d0 := (hI.out.2.2.2.cell (p := ⟨q, k * 2, none⟩) hql).trans d0'
      have d1 := (hI.out.2.2.2.cell (p := ⟨q, k * 2 + 1, none⟩) hql).trans d1'
      obtain ⟨xi, xt⟩ := x
      clear hlt hx d0' d1'
      by_cases hxi : xi = id
      · subst hxi
        have q1 : (xi != xi) = false := by simp
        go_wp2_with (fail)
        go_roundg (v.length - k)
        case measure => have := hg.out; omega
        case rel =>
          obtain ⟨h1, h2, h3, h4⟩ := hI.out
          have hb : Below wr.heap.size wr (wr.alloc (.cells #[.int .i64 xi, .int .i64 xt] 59)) := (Below.refl _ _).alloc (Nat.le_refl _) _
          have hP := HP.out
          simp only [if_true, List.append_nil] at hP
          refine ⟨k + 1, n, c2, A2, by go_num, rfl, by omega, (show _ = _ by omega), ?_, ?_, h3, h4.trans (hb.mono h4.size)⟩
          · rw [hP]; exact h1
          · rw [hP]; exact h2.below hb h2.lt
      · have q1 : (xi != id) = true := by simp [hxi]
        have hnl : n ≤ 1000 := by
          have h1 := hI.out.1
          have h2 := drop_le (v.take k) id
          have h3 := HT.out.2
          simp only [List.length_take] at h2
          omega
        have HSL := Lib.hid ((hI.out.2.1.alloc (.cells #[.int .i64 xi, .int .i64 xt] 59)).alloc (.cells #[.int .i64 xi, .int .i64 xt] 59))
        have hsr := src_th (P := Try.prog) Try.underlying26 (wr.alloc (.cells #[.int .i64 xi, .int .i64 xt] 59)) 59 ⟨xi, xt⟩
        rw [World.size_alloc] at hsr
        have HSR := Lib.hid hsr
        clear hsr
        have hX := Blk.new wr 59 #[.int .i64 xi, .int .i64 xt]
        have x0 := hX.cell 0
        have x1 := hX.cell 1
        clear hX
        go_wp2_with (at_builtin; go_must (refine wpList_append_sl _ rfl (.tmp 19) (.tmp 21) 26 26 rfl 59 i0 (.agg #[.int .i64 0, .int .i64 0]) 2 16 Try.underlying26 hi0 hz0 hz1 hz2 rfl (.slice A2 n c2) n (flatV Th.vs (dropV (v.take k) id)) rfl HSL.out _ rfl 1 (flatV Th.vs [⟨xi, xt⟩]) HSR.out (by unfold maxLen; omega) (by omega) ?_); intro v3 w9 hs3 hg3 hv3; obtain ⟨A3, c3, rfl, hc3, hm3⟩ := hs3.shape; have H3 := Lib.hid (And.intro hs3 (And.intro hg3 hv3)); clear hs3 hg3 hv3 hc3 hm3)
        go_roundg (v.length - k)
        case measure => have := hg.out; omega
        case rel =>
          obtain ⟨h1, h2, h3, h4⟩ := hI.out
          obtain ⟨hs3, hg3, hv3⟩ := H3.out
          have hP := HP.out
          rw [if_neg hxi] at hP
          refine ⟨k + 1, n + 1, c3, A3, by go_num, rfl, by omega, (show _ = _ by omega), ?_, ?_, own_from h3 (by simp; have := h4.size; omega) hv3, ?_⟩
          · rw [hP, List.length_append, ← h1]; rfl
          · rw [hP, flatV_append]; exact hs3
          · exact ((h4.alloc h4.size _).alloc (by have := h4.size; simp; omega) _).grown hg3 (by have := h4.size; simp; omega) (fun g hg => h3 g hg)
    · have hltI : ¬ (k : Int) < (v.length : Int) := by omega
      obtain rfl : k = v.length := by omega
      clear hlt
      have hI1 := hI.out.1
      have hI2 := hI.out.2
      rw [List.take_length] at hI1 hI2
      have HJ := Lib.hid hI2
      subst hI1
      clear hI hI2
      go_wp2_with (fail)
      go_ret2
      obtain ⟨h2, h3, h4⟩ := HJ.out
      refine ⟨A2, c2, ?_, h2, h3, h4⟩
      rw [← drop_lt]
      rfl

theorem sl_empty35 (w : World) (t : TypeId) (size g : Nat) (hg : w.heap.size = g) : Sl (w.alloc (.cells #[] t)) size (.slice (some ⟨g, 0, none⟩) 0 0) 0 [] := by
  subst hg
  exact ⟨by simp, .inr ⟨w.heap.size, 0, rfl, by simp, Nat.le_refl _, Nat.zero_le _, fun j hj => absurd hj (by omega), fun j u hu => by simp at hu⟩⟩
theorem src_sl35 {P : Program} {tx e' : TypeId} (hk : P.underlying tx = some (.slice e')) {W : World} {size n c : Nat} {A : Option Addr} {xs : List Value} (h : Sl W size (.slice A n c) n xs) (hx : ∀ u ∈ xs, u.oneCell' = true) : Src P size tx (.slice A n c) n xs W := by
  have hl := h.1
  rcases h.2 with ⟨hv, h0⟩ | ⟨g, cap, hv, _, _, _, _, h4⟩
  · injection hv with h1 h2 h3
    subst h1 h2 h3
    have hx0 : xs = [] := List.eq_nil_of_length_eq_zero (by simpa using hl)
    subst hx0
    exact Src.ofNil _ hk 0
  · injection hv with h1 h2 h3
    subst h1 h3
    exact Src.ofSlice _ hk ⟨g, 0, none⟩ n c xs hl (fun j u hu => by
      rw [Go.WideShapes.add_plain, Nat.zero_add]; exact h4 j u hu) hx
theorem th_one35 (v : List Th) : ∀ u ∈ flatV Th.vs v, u.oneCell' = true := by
  intro u hu
  unfold flatV at hu
  obtain ⟨x, _, hx⟩ := List.mem_flatMap.1 hu
  rcases List.mem_cons.1 hx with rfl | hx
  · rfl
  · rcases List.mem_cons.1 hx with rfl | hx
    · rfl
    · cases hx
theorem has_step {v : List Th} {k : Nat} {x : Th} (hx : v[k]? = some x) (id : Int) : hasId (v.take (k + 1)) id = (hasId (v.take k) id || x.id == id) := by
  rw [show v.take (k + 1) = v.take k ++ [x] from by rw [List.take_add_one, hx]; rfl]
  simp [hasId]

set_option maxRecDepth 100000 in
set_option maxHeartbeats 4000000 in
theorem rAdd35_any {w : World} {A : Option Addr} {c : Nat} {v : List Th} (h : TS w A c v) (hl : v.length ≤ 900) (x : Th) :
    Calls Try.prog 7 #[.slice A v.length c, .int .i64 x.id, .int .i64 x.t] w (ListP w (Value.slice A v.length c).ownBlock (addV v x.id x.t) (!hasId v x.id)) := by
  obtain ⟨i0, hi0, hz0, hz1, hz2⟩ := info_parts info_thing
  have HT := Lib.hid (And.intro h hl)
  have hlI : (v.length : Int) ≤ 900 := by omega
  clear h hl
  obtain ⟨id, t⟩ := x
  dsimp only
  go_enter Try.func7, Try.ntmps7
  go_wp2_with (fail)
  go_loopg [12] (v.length + 1) (fun gg v12 wr => ∃ (k : Nat), v12 = .int .i64 (k : Int) ∧ k ≤ v.length ∧ Aside (gg + k = v.length + 1) ∧ Aside (hasId (v.take k) id = false ∧ Below w.heap.size w wr))
  case atStart => exact ⟨0, rfl, by omega, rfl, rfl, Below.refl _ _⟩
  case round =>
    obtain ⟨k, rfl, hk, hg, hI⟩ := hrel
    by_cases hlt : k < v.length
    · obtain ⟨q, rfl, hql, d0', d1'⟩ := HT.out.1.at_ hlt
      have hltI : (k : Int) < (v.length : Int) := by omega
      have HP := Lib.hid (And.intro (has_step (get_ath hlt) id) (ath_mem hlt))
      obtain ⟨x, hx⟩ : ∃ x, ath v k = x := ⟨_, rfl⟩
      rw [hx] at d0' d1' HP
      have d0 := (hI.out.2.cell (p := ⟨q, k * 2, none⟩) hql).trans d0'
      have d1 := (hI.out.2.cell (p := ⟨q, k * 2 + 1, none⟩) hql).trans d1'
      obtain ⟨xi, xt⟩ := x
      clear hlt hx d0' d1'
      by_cases hxi : xi = id
      · subst hxi
        have q1 : (xi == xi) = true := by simp
        go_wp2_with (fail)
        go_ret2
        have hh : hasId v xi = true := (hasId_iff v xi).2 ⟨_, HP.out.2, rfl⟩
        have ea : addV v xi t = v := by unfold addV; rw [if_pos hh]
        have hb : Below w.heap.size w (wr.alloc (.cells #[.int .i64 xi, .int .i64 xt] 59)) := hI.out.2.alloc hI.out.2.size _
        rw [hh, ea]
        exact ⟨_, _, rfl, HT.out.1.below hb, fun p hp => .inl hp, hb⟩
      · have q1 : (xi == id) = false := by simp [hxi]
        go_wp2_with (fail)
        go_roundg (v.length - k)
        case measure => have := hg.out; omega
        case rel =>
          have hP := HP.out.1
          have q1 : (xi == id) = false := by simp [hxi]
          refine ⟨k + 1, by go_num, by omega, (show _ = _ by omega), ?_, hI.out.2.alloc hI.out.2.size _⟩
          rw [hP, hI.out.1]
          exact q1
    · have hltI : ¬ (k : Int) < (v.length : Int) := by omega
      obtain rfl : k = v.length := by omega
      clear hlt
      have hI1 := hI.out.1
      have hI2 := hI.out.2
      rw [List.take_length] at hI1
      have HJ := Lib.hid (And.intro hI1 hI2)
      have HLen := Lib.hid HT.out.2
      clear hI hI1 hI2
      have hsr := (HT.out.1.below HJ.out.2).alloc (.cells #[] 59)
      have HSE := Lib.hid (sl_empty35 wr 59 2 wr.heap.size rfl)
      have HSR := Lib.hid (src_sl35 Try.underlying26 hsr (th_one35 v))
      clear hsr
      have hvl : v.length ≤ 900 := HLen.out
      go_wp2_with (first
        | (at_builtin; refine wpList_append_sl _ rfl (.tmp 22) (.tmp 23) 26 26 rfl 59 i0 (.agg #[.int .i64 0, .int .i64 0]) 2 16 Try.underlying26 hi0 hz0 hz1 hz2 rfl (.slice (some ⟨wr.heap.size, 0, none⟩) 0 0) 0 [] rfl HSE.out _ rfl v.length (flatV Th.vs v) HSR.out (by unfold maxLen; omega) (by omega) ?_; intro v4 w4 hs4 hg4 hv4; simp only [Nat.zero_add, List.nil_append] at hs4; obtain ⟨A4, c4, rfl, hc4, hm4⟩ := hs4.shape; have HSL2 := Lib.hid (hs4.alloc (.cells #[.int .i64 id, .int .i64 t] 59)); have HSR2 := Lib.hid (src_th (P := Try.prog) Try.underlying26 w4 59 ⟨id, t⟩); have H4 := Lib.hid (And.intro hs4 (And.intro hg4 hv4)); clear hs4 hg4 hv4 hc4 hm4; try simp only [Nat.zero_add])
        | (at_builtin; go_must (refine wpList_append_sl _ rfl (.tmp 24) (.tmp 28) 26 26 rfl 59 i0 (.agg #[.int .i64 0, .int .i64 0]) 2 16 Try.underlying26 hi0 hz0 hz1 hz2 rfl (.slice A4 v.length c4) v.length (flatV Th.vs v) rfl HSL2.out _ rfl 1 (flatV Th.vs [⟨id, t⟩]) HSR2.out (by unfold maxLen; omega) (by omega) ?_); intro v5 w5 hs5 hg5 hv5; obtain ⟨A5, c5, rfl, hc5, hm5⟩ := hs5.shape; have H5 := Lib.hid (And.intro hs5 (And.intro hg5 hv5)); clear hs5 hg5 hv5 hc5 hm5))
      go_ret2
      obtain ⟨hs4, hg4, hv4⟩ := H4.out
      obtain ⟨hs5, hg5, hv5⟩ := H5.out
      have z0 := HJ.out.2.size
      have hb4 : Below w.heap.size w w4 := (HJ.out.2.alloc z0 _).grown hg4 (by simp; omega) (fun g hg => by
        have : wr.heap.size = g := by simpa [Value.ownBlock] using hg
        omega)
      have ow4 : ∀ g, (Value.slice A4 v.length c4).ownBlock = some g → w.heap.size ≤ g := own_from (v := .slice (some ⟨wr.heap.size, 0, none⟩) 0 0) (fun g hg => by
        have : wr.heap.size = g := by simpa [Value.ownBlock] using hg
        omega) (w := wr.alloc (.cells #[] 59)) (by simp; omega) hv4
      have ea : addV v id t = v ++ [⟨id, t⟩] := by unfold addV; rw [if_neg (by rw [HJ.out.1]; simp)]
      have hb5 : Below w.heap.size w w5 := (hb4.alloc hb4.size _).grown hg5 (by have := hb4.size; simp; omega) ow4
      rw [ea, HJ.out.1]
      have ow5 : ∀ g, (Value.slice A5 (v.length + 1) c5).ownBlock = some g → w.heap.size ≤ g := own_from ow4 (by have := hb4.size; simp; omega) hv5
      refine ⟨A5, c5, by rw [List.length_append]; rfl, ?_, fun p hp => .inr (ow5 p (by rw [List.length_append] at hp; exact hp)), hb5⟩
      unfold TS
      rw [List.length_append, flatV_append]
      exact hs5
end Go.Proofs.Ytkdijafnakpfhaa
