/- The walks of scrub.staying and its iterator. Conditions: none. -/
import Derived.Test.YthjkdpphbipgfaaStays
import Derived.Test.YthjkdpphbipgfaaRangeK
import Derived.Sort.LoopGhostIn
import Derived.OwnWalkIn
namespace Go.Proofs.Ythjkdpphbipgfaa
open Go.RowKit Go.Lib Go.Shelf
attribute [local go_sem] Oper.semAt_some

def flatX (ls : List LRec) : List RRec := ls.flatMap LRec.xs
/-- What came, ahead of the place j of the list i. -/
def cameL (z : Bs) (ls : List LRec) (i : Nat) (xs : List RRec) (j : Nat) : List RRec := leftL z (flatX (ls.take i) ++ xs.take j)
section
variable {z : Bs} {ls : List LRec} {i j : Nat} {l : LRec} {r : RRec}
theorem came_zero (xs : List RRec) : cameL z ls 0 xs 0 = [] := by simp [cameL, flatX, leftL]
theorem take_at {α : Type} {xs : List α} {i : Nat} {x : α} (hi : xs[i]? = some x) : xs.take (i + 1) = xs.take i ++ [x] := by
  obtain ⟨h, rfl⟩ := List.getElem?_eq_some_iff.1 hi
  rw [List.take_succ_eq_append_getElem h]
theorem split_at' {α : Type} {xs : List α} {i : Nat} {x : α} (hi : xs[i]? = some x) : xs = xs.take i ++ (x :: xs.drop (i + 1)) := by
  obtain ⟨h, rfl⟩ := List.getElem?_eq_some_iff.1 hi
  conv => lhs; rw [← List.take_append_drop i xs, List.drop_eq_getElem_cons h]
theorem came_next (hi : ls[i]? = some l) (ys : List RRec) : cameL z ls i l.xs l.xs.length = cameL z ls (i + 1) ys 0 := by
  unfold cameL
  rw [List.take_length, List.take_zero, List.append_nil, take_at hi]
  simp [flatX]
theorem came_done (ys : List RRec) : cameL z ls ls.length ys 0 = leftL z (flatX ls) := by simp [cameL]
theorem came_step (hj : l.xs[j]? = some r) : cameL z ls i l.xs (j + 1) = cameL z ls i l.xs j ++ (if staysB z r = true then [r] else []) := by
  unfold cameL
  rw [take_at hj, ← List.append_assoc]
  unfold leftL
  rw [List.filter_append]
  simp [List.filter_cons]
theorem came_pre (hi : ls[i]? = some l) : cameL z ls i l.xs j <+: leftL z (flatX ls) := by
  unfold cameL leftL
  refine List.IsPrefix.filter _ ?_
  refine ⟨l.xs.drop j ++ flatX (ls.drop (i + 1)), ?_⟩
  have h1 := congrArg flatX (split_at' hi)
  have h2 : flatX (ls.take i ++ (l :: ls.drop (i + 1))) = flatX (ls.take i) ++ (l.xs ++ flatX (ls.drop (i + 1))) := by simp [flatX]
  rw [h2] at h1
  rw [h1, List.append_assoc, ← List.append_assoc (l.xs.take j), List.take_append_drop]
end
theorem KeepS.cellK {S : Nat → Prop} {U V : World} (h : KeepS S U V) {a : Addr} (ha : a.block < U.heap.size) (hs : S a.block) : V.cell? a = U.cell? a := World.cell?_of_block (h.same _ ha hs)

/-- What the iterator leans on. -/
structure Lists (w : World) (K : Nat → Prop) (z : ByteArray) (Bz Bl Bo : Nat) (ls : List LRec) (c : Nat) : Prop where
  zo : Blk w Bz 9 #[.string z]
  li : Blk w Bl 55 #[.slice (some ⟨Bo, 0, none⟩) ls.length c]
  at_ : ∀ j l, ls[j]? = some l → w.cell? ⟨Bo, j, none⟩ = some (.slice l.A l.xs.length l.c)
  lo : Bo < w.heap.size
  tab : ∀ l ∈ ls, RTab w l.A l.xs ∧ (0 < l.xs.length → ∀ a, l.A = some a → K a.block)
  ok : ∀ l ∈ ls, l.xs.length ≤ 1000000 ∧ ∀ e ∈ l.xs, e.n.size ≤ maxLen ∧ e.d.size ≤ 1000000
  kz : K Bz
  kl : K Bl
  ko : K Bo
  le : ls.length ≤ c ∧ ls.length ≤ 1000
  zs : z.size ≤ maxLen

set_option maxRecDepth 100000 in
set_option maxHeartbeats 4000000 in
theorem staying1_K (z : ByteArray) (Bz Bl Bo c : Nat) (ls : List LRec) (K : Nat → Prop) (w : World) (h : Lists w K z Bz Bl Bo ls c) :
    SeqK Try.prog 74 #[.pointer (some ⟨Bl, 0, none⟩), .pointer (some ⟨Bz, 0, none⟩)] (fun r : RRec => #[r.val]) K (leftL z.data.toList (flatX ls)) w := by
  intro m l J Jx W hW hJ hJx hY h0
  obtain ⟨n, hn⟩ : ∃ n : Nat, 8 ≤ n := ⟨8, by omega⟩
  refine callsIn_wide.2 ((callsIn_wide (n := n)).1 ?_)
  have h1n : 1 ≤ n := by omega
  have H := Lib.hid h
  have KW := Lib.hid (KeepS.of_below hW : KeepS K w W)
  have c1 : W.cell? ⟨Bl, 0, none⟩ = some (.slice (some ⟨Bo, 0, none⟩) ls.length c) := (KW.out.cellK (a := ⟨Bl, 0, none⟩) h.li.lt h.kl).trans (h.li.cell 0)
  have hlI : (ls.length : Int) ≤ 1000 := by have := h.le; omega
  have HS := Lib.hid (fun (r : RRec) (hr : r.n.size ≤ maxLen ∧ r.d.size ≤ 1000000) W' => (callsIn_wide (n := n - 1)).2 (stays_any r z hr.1 (by omega) h.zs W'))
  have HJ := Lib.hid (And.intro hJ (And.intro hJx hY))
  have H0 := Lib.hid h0
  clear h hW hJ hJx hY h0
  refine callsIn_of_wp Try.func74 rfl trivial ?_ rfl
  simp only [Try.ntmps74, List.size_toArray, List.length_cons, List.length_nil, Nat.reduceAdd, Nat.reduceSub, Array.replicate_succ, Array.replicate_zero, List.push_toArray, List.append_toArray, List.nil_append, List.cons_append]
  gi_wp2_with (fail)
  gi_loopg [10] (ls.length + 1) (fun g v10 wr => ∃ i : Nat, v10 = .int .i64 (i : Int) ∧ Aside (g + i = ls.length + 1) ∧ i ≤ ls.length ∧ Aside (J (cameL z.data.toList ls i [] 0) wr) ∧ Aside (KeepS K w wr))
  case atStart => exact ⟨0, rfl, rfl, by omega, by rw [came_zero]; exact H0.out, KW.out⟩
  case round =>
    obtain ⟨i, rfl, hg, hil, hj, hk⟩ := hrel
    by_cases hlt : i < ls.length
    · obtain ⟨⟨A, xs, cc⟩, hy⟩ : ∃ y, ls[i]? = some y := ⟨_, List.getElem?_eq_getElem hlt⟩
      have hym := List.mem_of_getElem? hy
      have hltI : (i : Int) < (ls.length : Int) := by omega
      have co : wr.cell? ⟨Bo, i, none⟩ = some (.slice A xs.length cc) := (hk.out.cellK (a := ⟨Bo, i, none⟩) H.out.lo H.out.ko).trans (H.out.at_ i _ hy)
      have hxl : (xs.length : Int) ≤ 1000000 := by have h1 : xs.length ≤ 1000000 := (H.out.ok _ hym).1; omega
      have HY := Lib.hid (And.intro hy hym)
      have htab : RTab w A xs ∧ (0 < xs.length → ∀ a, A = some a → K a.block) := H.out.tab _ hym
      have hoks : ∀ e ∈ xs, e.n.size ≤ maxLen ∧ e.d.size ≤ 1000000 := (H.out.ok _ hym).2
      have HT := Lib.hid (And.intro htab.1 (And.intro htab.2 hoks))
      clear hy hym hlt htab hoks c1
      gi_wp2_with (fail)
      gi_loopg [16] (xs.length + 1) (fun g2 v16 ws => ∃ j : Nat, v16 = .int .i64 (j : Int) ∧ Aside (g2 + j = xs.length + 1) ∧ j ≤ xs.length ∧ Aside (J (cameL z.data.toList ls i xs j) ws) ∧ Aside (KeepS K w ws))
      case atStart => exact ⟨0, rfl, rfl, by omega, (by rw [show cameL z.data.toList ls i xs 0 = cameL z.data.toList ls i [] 0 by simp [cameL]]; exact hj.out), hk.out⟩
      case round =>
        obtain ⟨j, rfl, hg2, hjl, hjj, hkk⟩ := hrel
        clear co hj hk
        by_cases hlt2 : j < xs.length
        · obtain ⟨⟨rn, rt, rc, rl, rd⟩, hr⟩ : ∃ r, xs[j]? = some r := ⟨_, List.getElem?_eq_getElem hlt2⟩
          have hrm := List.mem_of_getElem? hr
          have hlt2I : (j : Int) < (xs.length : Int) := by omega
          obtain ⟨b, off, rfl, hbw, d0, d1, d2, d3, d4⟩ := HT.out.1.cells hr
          have hkb : K b := HT.out.2.1 (by omega) _ rfl
          have hsz := hkk.out.size
          have hcell : ∀ k u, w.cell? ⟨b, k, none⟩ = some u → wr.cell? ⟨b, k, none⟩ = some u := fun k u hu => (hkk.out.cellK (a := ⟨b, k, none⟩) hbw hkb).trans hu
          have e0 : wr.cell? ⟨b, off + j * 5, none⟩ = some (.string rn) := hcell _ _ d0
          have e1 : wr.cell? ⟨b, off + j * 5 + 1, none⟩ = some (.int .u16 rt) := hcell _ _ d1
          have e2 : wr.cell? ⟨b, off + j * 5 + 2, none⟩ = some (.int .u16 rc) := hcell _ _ d2
          have e3 : wr.cell? ⟨b, off + j * 5 + 3, none⟩ = some (.int .u32 rl) := hcell _ _ d3
          have e4 : wr.cell? ⟨b, off + j * 5 + 4, none⟩ = some (.string rd) := hcell _ _ d4
          have hbs : b < wr.heap.size := by omega
          have hBz : Bz < wr.heap.size := by have := H.out.zo.lt; omega
          have cz : wr.cell? ⟨Bz, 0, none⟩ = some (.string z) := (hkk.out.cellK (a := ⟨Bz, 0, none⟩) H.out.zo.lt H.out.kz).trans (H.out.zo.cell 0)
          have HC := Lib.hid (HS.out ⟨rn, rt, rc, rl, rd⟩ (HT.out.2.2 _ hrm))
          have HP := Lib.hid (came_step (z := z.data.toList) (ls := ls) (i := i) (l := ⟨some ⟨b, off, none⟩, xs, cc⟩) hr)
          have HQ := Lib.hid (came_pre (z := z.data.toList) (j := j + 1) HY.out.1)
          clear hcell d0 d1 d2 d3 d4 hr hrm hkb hbw hsz hlt2
          cases hst : staysB z.data.toList ⟨rn, rt, rc, rl, rd⟩ with
          | false =>
            rw [hst] at HC HP
            clear hst HQ
            gi_wp2_with (refine ⟨trivial, ?_⟩; gi_at_call 16; refine (HC.out _).mono ?_; rintro e w2 ⟨rfl, hb2⟩)
            refine ⟨fun _ h => (by cases h), ?_⟩
            gi_wp2_with (fail)
            have hb3 : Below wr.heap.size wr w2 := ((Below.refl _ _).alloc (Nat.le_refl _) _).trans (hb2.mono (by simp))
            gi_roundg (xs.length - j)
            case measure => have := hg2.out; omega
            case rel =>
              refine ⟨j + 1, rfl, (by show _ = _; omega), by omega, ?_, hkk.out.trans (.of_below hb3)⟩
              show J _ _
              rw [show cameL z.data.toList ls i xs (j + 1) = cameL z.data.toList ls i xs j from HP.out.trans (by simp)]
              exact HJ.out.1 _ _ _ hjj.out hb3
          | true =>
            rw [hst] at HC HP
            clear hst
            have hp1 : cameL z.data.toList ls i xs (j + 1) = cameL z.data.toList ls i xs j ++ [⟨rn, rt, rc, rl, rd⟩] := HP.out.trans (by simp)
            have HP2 := Lib.hid (And.intro hp1 (show cameL z.data.toList ls i xs j ++ [⟨rn, rt, rc, rl, rd⟩] <+: leftL z.data.toList (flatX ls) from hp1 ▸ HQ.out))
            clear HP HQ hp1
            gi_wp2_with (refine ⟨trivial, ?_⟩; gi_at_call 16; refine (HC.out _).mono ?_; rintro e w2 ⟨rfl, hb2⟩; have hb3 : Below wr.heap.size wr w2 := ((Below.refl _ _).alloc (Nat.le_refl _) _).trans (hb2.mono (by simp)); have hX := (Blk.new wr 30 #[.string rn, .int .u16 rt, .int .u16 rc, .int .u32 rl, .string rd]).below hb2 (by simp); have x0 := hX.cell 0; have x1 := hX.cell 1; have x2 := hX.cell 2; have x3 := hX.cell 3; have x4 := hX.cell 4; obtain ⟨fn, tmps, assign, body, hyl, hR⟩ := yield_deep (m := n - 1) (HJ.out.2.2 _ _ w2 (HJ.out.1 _ _ _ hjj.out hb3) HP2.out.2); dsimp only [RRec.val] at hyl; have HX := Lib.hid (And.intro hb3 hR); clear hX hb2 hR hb3 HC)
            refine HX.out.2.mono ?_
            rintro e W3 (⟨rfl, h1, h2⟩ | ⟨rfl, h1⟩)
            · have H1 := Lib.hid (And.intro h1 h2)
              clear h1 h2 x0 x1 x2 x3 x4
              gi_wp2_with (fail)
              gi_roundg (xs.length - j)
              case measure => have := hg2.out; omega
              case rel =>
                refine ⟨j + 1, rfl, (by show _ = _; omega), by omega, ?_, (hkk.out.trans (.of_below HX.out.1)).trans H1.out.2⟩
                show J _ _
                rw [HP2.out.1]
                exact H1.out.1
            · have H1 := Lib.hid h1
              clear h1 x0 x1 x2 x3 x4
              gi_wp2_with (fail)
              refine bodyPost_ret (results_none rfl _ _ _) rfl ?_
              exact ⟨⟨_, rfl⟩, .inr ⟨_, HP2.out.2, H1.out⟩⟩
        · have hlt2I : ¬ (j : Int) < (xs.length : Int) := by omega
          have hjf : j = xs.length := by omega
          have HJN := Lib.hid (show J (cameL z.data.toList ls (i + 1) [] 0) wr from by
            have h1 := hjj.out
            rw [hjf] at h1
            rw [← came_next (l := ⟨A, xs, cc⟩) HY.out.1 []]
            exact h1)
          clear hlt2 hjj hjf
          gi_wp2_with (fail)
          gi_roundg (ls.length - i)
          case measure => have := hg.out; omega
          case rel => exact ⟨i + 1, rfl, (by show _ = _; omega), by omega, HJN.out, hkk.out⟩
    · have hltI : ¬ (i : Int) < (ls.length : Int) := by omega
      have HJD := Lib.hid (show J (leftL z.data.toList (flatX ls)) wr from by
        have h1 := hj.out
        rw [show i = ls.length by omega, came_done] at h1
        exact h1)
      clear hlt hj
      gi_wp2_with (fail)
      refine bodyPost_end (results_none rfl _ _ _) rfl ?_
      exact ⟨⟨_, rfl⟩, .inl HJD.out⟩

theorem staying_any (z : ByteArray) (A : Option Addr) (n c : Nat) (w : World) :
    Calls Try.prog 39 #[.string z, .slice A n c] w fun e w' => e = .returned (.func (.func 74) #[] #[.pointer (some ⟨w.heap.size + 1, 0, none⟩), .pointer (some ⟨w.heap.size, 0, none⟩)]) ∧ w' = (w.alloc (.cells #[.string z] 9)).alloc (.cells #[.slice A n c] 55) := by
  go_enter Try.func39, Try.ntmps39
  go_wp2
  go_ret
  exact ⟨rfl, rfl⟩
end Go.Proofs.Ythjkdpphbipgfaa
