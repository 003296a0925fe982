/- The walks of edns' right and Cookies. -/
import Derived.Test.YtgfpnkakglgokaaOpt
import Derived.Test.YtgfpnkakglgokaaRet
import Derived.Deep.RegionWith
import Derived.Deep.QuietTactic
import Derived.BigQuiet
namespace Go.Proofs.Ytgfpnkakglgokaa
open Go.RowKit Go.Lib

set_option maxRecDepth 100000 in
theorem right_any (c s : ByteArray) (hc : c.size ≤ maxLen) (hs : s.size ≤ maxLen) (w : World) :
    Calls Try.prog 44 #[.string c, .string s] w fun e w' => e = .returned (.bool (rightB c s)) ∧ w = w' := by
  unfold maxLen at hc hs
  have hcI : (c.size : Int) ≤ 9223372036854775807 := by omega
  have hsI : (s.size : Int) ≤ 9223372036854775807 := by omega
  have hem := empty_iff s
  by_cases h8 : c.size = 8
  · have h1 : ((c.size : Int) == 8) = true := by simp [h8]
    by_cases h0 : s.size = 0
    · have hr : rightB c s = true := by unfold rightB; simp [h8, h0]
      rw [show (s.size == 0) = true by simp [h0]] at hem
      rw [hr]
      clear hr h0 h8 hc hs
      go_enter Try.func44, Try.ntmps44
      go_wp2_with (fail)
      go_ret
      exact ⟨rfl, rfl⟩
    · rw [show (s.size == 0) = false by simp [h0]] at hem
      have hr : rightB c s = (decide (8 ≤ s.size) && decide (s.size ≤ 32)) := by unfold rightB; simp [h8, h0]
      by_cases a : 8 ≤ s.size
      · have a1 : (8 : Int) ≤ (s.size : Int) := by omega
        by_cases b : s.size ≤ 32
        · have b1 : (s.size : Int) ≤ 32 := by omega
          rw [hr, show (decide (8 ≤ s.size) && decide (s.size ≤ 32)) = true by simp [a, b]]
          clear hr h0 h8 hc hs a b
          go_enter Try.func44, Try.ntmps44
          go_wp2_with (fail)
          go_ret
          exact ⟨rfl, rfl⟩
        · have b1 : ¬ (s.size : Int) ≤ 32 := by omega
          rw [hr, show (decide (8 ≤ s.size) && decide (s.size ≤ 32)) = false by simp [b]]
          clear hr h0 h8 hc hs a b
          go_enter Try.func44, Try.ntmps44
          go_wp2_with (fail)
          go_ret
          exact ⟨rfl, rfl⟩
      · have a1 : ¬ (8 : Int) ≤ (s.size : Int) := by omega
        rw [hr, show (decide (8 ≤ s.size) && decide (s.size ≤ 32)) = false by simp [a]]
        clear hr h0 h8 hc hs a
        go_enter Try.func44, Try.ntmps44
        go_wp2_with (fail)
        go_ret
        exact ⟨rfl, rfl⟩
  · have h1 : ((c.size : Int) == 8) = false := by simp only [beq_eq_false_iff_ne]; omega
    have hr : rightB c s = false := by unfold rightB; simp [h8]
    rw [hr]
    clear hr h8 hc hs hem
    go_enter Try.func44, Try.ntmps44
    go_wp2_with (fail)
    go_ret
    exact ⟨rfl, rfl⟩

/-- The first option that is cookies, cut in two. -/
def ckC (d : ByteArray) : ByteArray := d.extract 0 (min d.size 8)
def ckS (d : ByteArray) : ByteArray := d.extract (min d.size 8) d.size
/-- What Cookies answers. -/
def ckR (xs : List Opt) : ByteArray × ByteArray × Int :=
  match xs.find? (Opt.is 10) with
  | none => (⟨#[]⟩, ⟨#[]⟩, 3)
  | some o => if rightB (ckC o.d) (ckS o.d) = true then (ckC o.d, ckS o.d, 0) else (⟨#[]⟩, ⟨#[]⟩, 2)

theorem ckR_of {xs : List Opt} {o : Opt} (hf : xs.find? (Opt.is 10) = some o) {C S : ByteArray} (hC : ckC o.d = C) (hS : ckS o.d = S) : ckR xs = if rightB C S = true then (C, S, 0) else (⟨#[]⟩, ⟨#[]⟩, 2) := by
  subst hC hS
  unfold ckR
  rw [hf]
theorem ck_small {d : ByteArray} (h : d.size ≤ 8) : ckC d = d ∧ ckS d = ByteArray.empty := by
  unfold ckC ckS
  rw [Nat.min_eq_left h]
  refine ⟨ByteArray.extract_zero_size, ?_⟩
  apply ByteArray.ext
  apply Array.toList_inj.1
  simp
theorem ck_big {d : ByteArray} (h : ¬ d.size ≤ 8) : ckC d = d.extract 0 8 ∧ ckS d = d.extract 8 d.size := by
  unfold ckC ckS
  rw [Nat.min_eq_right (by omega)]
  exact ⟨rfl, rfl⟩
/-- An Edns, as a value. -/
def ednsV (th : Bool) (sz hi ve fl : Int) (A : Option Addr) (n c : Nat) : Value := .agg #[.bool th, .int .u16 sz, .int .u8 hi, .int .u8 ve, .int .u16 fl, .slice A n c]

set_option maxRecDepth 100000 in
set_option maxHeartbeats 1000000 in
theorem Cookies_any (th : Bool) (sz hi ve fl : Int) (A : Option Addr) (xs : List Opt) (m : Nat) (w : World) (hT : OTab w A xs) (hn : xs.length ≤ 9223372036854775807) :
    Calls Try.prog 16 #[.agg #[.bool th, .int .u16 sz, .int .u8 hi, .int .u8 ve, .int .u16 fl, .slice A xs.length m]] w fun e w' => e = .returned (.tuple #[.string (ckR xs).1, .string (ckR xs).2.1, .int .i64 (ckR xs).2.2]) ∧ Below w.heap.size w w' := by
  have hb0 : Below w.heap.size w (w.alloc (.cells #[.bool th, .int .u16 sz, .int .u8 hi, .int .u8 ve, .int .u16 fl, .slice A xs.length m] 38)) := (Below.refl _ _).alloc (Nat.le_refl _) _
  have hT1 := hT.below hb0
  have hb1 : Below w.heap.size w (((w.alloc (.cells #[.bool th, .int .u16 sz, .int .u8 hi, .int .u8 ve, .int .u16 fl, .slice A xs.length m] 38)).alloc (.cells #[.int .u16 10] 31)).drew) := (hb0.alloc (by simp) _).drew
  have hb2 : Below (w.alloc (.cells #[.bool th, .int .u16 sz, .int .u8 hi, .int .u8 ve, .int .u16 fl, .slice A xs.length m] 38)).heap.size _ (((w.alloc (.cells #[.bool th, .int .u16 sz, .int .u8 hi, .int .u8 ve, .int .u16 fl, .slice A xs.length m] 38)).alloc (.cells #[.int .u16 10] 31)).drew) := ((Below.refl _ _).alloc (Nat.le_refl _) _).drew
  have hI := indexO_any xs A m 10 (w.heap.size + 1) _ (hT1.below hb2) (show w.heap.size + 1 < _ by simp [World.drew]) (show World.cell? (World.alloc _ _) _ = _ by rw [World.cell?_alloc_at _ _ _ _ (by simp)]; rfl) hn
  have hc5 : World.cell? ((((w.alloc (.cells #[.bool th, .int .u16 sz, .int .u8 hi, .int .u8 ve, .int .u16 fl, .slice A xs.length m] 38)).alloc (.cells #[.int .u16 10] 31)).drew)) ⟨w.heap.size, 5, none⟩ = some (.slice A xs.length m) := by
    show World.cell? (World.alloc _ _) _ = _
    rw [World.cell?_alloc_past _ _ _ (by simp), World.cell?_alloc_at _ _ _ _ (by simp)]; rfl
  have HI := Lib.hid (hI.mono (fun e w' (h : _ ∧ _) => And.intro h.1 (And.intro ((h.2.cell (p := ⟨w.heap.size, 5, none⟩) (show w.heap.size < _ by simp [World.drew]; omega)).trans hc5) (And.intro (show w.heap.size < w'.heap.size from Nat.lt_of_lt_of_le (by simp [World.drew]; omega) h.2.size) (hb1.trans (h.2.mono hb1.size))))))
  have HT := Lib.hid hT
  have HC := Lib.hid (fun W => coded_any 10 W)
  clear hT hb0 hb1 hb2 hT1 hI hc5
  have HR := Lib.hid (fun (c s : ByteArray) hc hs W => right_any c s hc hs W)
  rcases idxP_cases (Opt.is 10) xs with ⟨hi1, hf⟩ | ⟨k, o, hi1, hk, hp, hf⟩
  · rw [hi1] at HI
    have hr : ckR xs = (⟨#[]⟩, ⟨#[]⟩, 3) := by unfold ckR; rw [hf]
    rw [hr]
    clear hi1 hf hr
    go_enter Try.func16, Try.ntmps16
    go_wp2_with (fail)
    go_region_with (first
      | (go_at_call 43; refine (HC.out _).mono ?_; rintro e w' ⟨rfl, rfl⟩)
      | (refine HI.out.mono ?_; rintro e w' ⟨rfl, c5, hlt, hb⟩))
    all_goals
      go_wp2_with (fail)
      go_ret3
      exact ⟨rfl, hb⟩
  · rw [hi1] at HI
    have hk1 := (List.getElem?_eq_some_iff.1 hk).1
    have hkI : (k : Int) < (xs.length : Int) := by omega
    have HX := Lib.hid (And.intro hk (And.intro hk1 hf))
    clear hi1 hf hk hk1 hp
    go_enter Try.func16, Try.ntmps16
    go_wp2_with (fail)
    go_region_with (first
      | (go_at_call 43; refine (HC.out _).mono ?_; rintro e w' ⟨rfl, rfl⟩)
      | (refine HI.out.mono ?_; rintro e w' ⟨rfl, c5, hlt, hb⟩))
    all_goals
      have hHT := HT.out.below hb
      obtain ⟨b, off, rfl, hbs, hc⟩ := hHT.2 (by have := HX.out.2.1; omega)
      have c1 : w'.cell? ⟨b, off + k * 2 + 1, none⟩ = some (.string o.d) := hc k o HX.out.1 1 _ rfl
      have hds : o.d.size ≤ maxLen := (hHT.1 o (List.mem_of_getElem? HX.out.1)).2
      clear hc hHT
      have HBB := Lib.hid hb
      clear hb
      by_cases h8 : o.d.size ≤ 8
      · have h8I : (o.d.size : Int) ≤ 8 := by omega
        have hRR := ckR_of HX.out.2.2 (ck_small h8).1 (ck_small h8).2
        have HRR := Lib.hid hRR
        have HDS := Lib.hid hds
        clear hRR h8 hds
        go_wp2_with (fail)
        go_quiet (fail)
        go_wp2_with (fail)
        with_reducible refine (HR.out _ _ HDS.out (by decide) _).mono ?_
        rintro e w2 ⟨rfl, rfl⟩
        cases hr : rightB o.d ByteArray.empty
        all_goals
          have e1 := HRR.out
          rw [hr] at e1
          have E1 := Lib.hid e1
          clear e1 hr
          go_wp2_with (fail)
          go_ret3
          exact ⟨by rw [E1.out]; rfl, below_drewN HBB.out _⟩
      · have h8I : ¬ (o.d.size : Int) ≤ 8 := by omega
        have h8J : (8 : Int) ≤ (o.d.size : Int) := by omega
        have hRR := ckR_of HX.out.2.2 (ck_big h8).1 (ck_big h8).2
        have HRR := Lib.hid hRR
        have HDS := Lib.hid hds
        unfold maxLen at hds
        have hdI : (o.d.size : Int) ≤ 9223372036854775807 := by omega
        clear hRR h8 hds
        go_wp2_with (fail)
        go_quiet (fail)
        go_wp2_with (fail)
        with_reducible refine (HR.out _ _ (by rw [ByteArray.size_extract]; unfold maxLen; omega) (by rw [ByteArray.size_extract]; have := HDS.out; omega) _).mono ?_
        rintro e w2 ⟨rfl, rfl⟩
        cases hr : rightB (o.d.extract 0 8) (o.d.extract 8 o.d.size)
        all_goals
          have e1 := HRR.out
          rw [hr] at e1
          have E1 := Lib.hid e1
          clear e1 hr
          go_wp2_with (fail)
          go_ret3
          exact ⟨by rw [E1.out]; rfl, below_drewN HBB.out _⟩
end Go.Proofs.Ytgfpnkakglgokaa
