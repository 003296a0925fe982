/- The walk of the wheel's heap's push. Conditions: none. -/
import Derived.Test.YtkdijafnakpfhaaWheelD
import Derived.Test.YtkdijafnakpfhaaRef01E
import Derived.Deep.RegionLaw
import Derived.Deep.RegionHeldLaw
namespace Go.Proofs.Ytkdijafnakpfhaa
open Go.RowKit Go.Lib

theorem info_th : (Try.prog.info? 50).map (fun i => (i.zero, i.size, i.bytes)) = some (some (.agg #[.int .i64 0, .int .i64 0]), 2, 16) := by kernel_rfl
theorem zero_int35 (w : World) : (zeroValue 3).run Try.prog w = .ok (.int .i64 0) w := by rfl
theorem src_th {P : Program} {tx e' : TypeId} (hk : P.underlying tx = some (.slice e')) (w : World) (t : TypeId) (x : Th) :
    Src P 2 tx (.slice (some ⟨w.heap.size, 0, none⟩) 1 1) 1 (flatV Th.vs [x]) (w.alloc (.cells #[.int .i64 x.id, .int .i64 x.t] t)) :=
  Src.ofSlice _ hk ⟨w.heap.size, 0, none⟩ 1 1 _ rfl (fun j u hx => by
    rw [add_lit', Nat.zero_add, World.cell?_alloc_new]
    rw [flatV_one] at hx
    rw [← hx, Th.vs]
    simp) (fun u hu => by
      rw [flatV_one, Th.vs] at hu
      simp only [List.mem_cons, List.not_mem_nil, or_false] at hu
      rcases hu with rfl | rfl <;> rfl)
theorem look35 {W : World} {mb n : Nat} {f : Int → Option Nat} (hm : ∃ F, MapV Try.prog 3 W mb n F ∧ RelF F f) (k : Int) (hk : -9223372036854775808 ≤ k ∧ k ≤ 9223372036854775807) :
    (Instr.lookup 52 (.map (some mb)) (.int .i64 k) true).run Try.prog W = .ok (.tuple #[.int .i64 (((f k).getD 0 : Nat) : Int), .bool (f k).isSome]) W := by
  obtain ⟨F, h1, h2⟩ := hm
  have h := h1.lookOk keyed_int35 Try.underlying52 (zero_int35 W) (key_of_int hk)
  rw [h2 k] at h
  rw [h]
  cases f k <;> rfl

theorem own_map (A : Option Addr) (n c : Nat) : (Value.slice A n c).ownBlock = A.map (·.block) := by cases A <;> rfl
structure P5 (w1 w5 : World) (g mb n c : Nat) (A : Option Addr) (xs : List Th) (f : Int → Option Nat) (x : Th) (A5 : Option Addr) (c5 : Nat) : Prop where
  bx : Blk w5 g 57 #[.func (.func 17) #[] #[], .func (.func 18) #[] #[], .slice A xs.length c, .map (some mb)]
  it : Sl w5 2 (.slice A5 (xs.length + 1) c5) (xs.length + 1) (flatV Th.vs (xs ++ [x]))
  mp : ∃ F, MapV Try.prog 3 w5 mb n F ∧ RelF F f
  ne : g ≠ mb ∧ ∀ q, (Value.slice A5 (xs.length + 1) c5).ownBlock = some q → q ≠ g ∧ q ≠ mb
  kp : KeepH g mb A w1 w5
  an : A5 = A ∨ ∀ q, A5 = some q → w1.heap.size ≤ q.block
theorem push5 {w1 w5 : World} {g mb n c : Nat} {A : Option Addr} {xs : List Th} {f : Int → Option Nat} {x : Th} {v5 : Value} {o : Obj} (h : HS w1 g mb A c xs f n) (hs5 : Sl w5 2 v5 (xs.length + 1) (flatV Th.vs xs ++ flatV Th.vs [x]))
    (hg5 : (w1.drew.alloc o).grownBy w5 (Value.slice A xs.length c).ownBlock) (hv5 : v5.ownBlock = (Value.slice A xs.length c).ownBlock ∨ v5.ownBlock = some (w1.drew.alloc o).heap.size) :
    ∃ A5 c5, v5 = .slice A5 (xs.length + 1) c5 ∧ P5 w1 w5 g mb n c A xs f x A5 c5 := by
  obtain ⟨A5, c5, rfl, _, _⟩ := hs5.shape
  have hgl := h.bx.lt
  obtain ⟨F, m1, m2⟩ := h.mp
  have hml := m1.lt
  have hsz : (w1.drew.alloc o).heap.size = w1.heap.size + 1 := by simp
  refine ⟨A5, c5, rfl, ?_, ?_, ⟨F, ?_, m2⟩, ⟨h.ne.1, fun q hq => ?_⟩, ?_, ?_⟩
  · exact (h.bx.drew.alloc o).grown hg5 (fun e => (h.ne.2 g e.symm).1 rfl)
  · rw [flatV_append]; exact hs5
  · exact ((m1.drewN 1).alloc o |> fun k => (show MapV Try.prog 3 (w1.drew.alloc o) mb n F from m1.keep ((Below.heap_alloc w1.drew o mb hml)))).grown hg5 (fun e => (h.ne.2 mb e.symm).2 rfl)
  · rcases hv5 with e | e
    · exact h.ne.2 q (e.symm.trans hq)
    · rw [hq, hsz] at e
      injection e with e
      omega
  · refine ⟨hg5.os, hg5.tape, hg5.output, Nat.le_trans (by rw [hsz]; omega) hg5.size, fun b hb => ?_⟩
    refine (hg5.block b (by rw [hsz]; omega) (fun e => ?_)).trans (Below.heap_alloc w1.drew o b hb.1)
    rw [own_map] at e
    cases hA : A with
    | none => rw [hA] at e; cases e
    | some q =>
      rw [hA] at e
      injection e with e
      exact hb.2.2.2 q hA e
  · rcases hv5 with e | e
    · left
      rcases hs5.2 with ⟨h1, _⟩ | ⟨q5, _, h1, _⟩
      · injection h1 with h1 _ _
        subst h1
        rw [own_map, own_map] at e
        cases A with
        | none => rfl
        | some a => cases e
      · injection h1 with h1 _ _
        subst h1
        rw [own_map, own_map] at e
        cases hA : A with
        | none => rw [hA] at e; cases e
        | some a =>
          rw [hA] at e
          injection e with e
          rcases h.it.2 with ⟨h2, _⟩ | ⟨q6, _, h2, _⟩
          · injection h2 with h2 _ _
            rw [hA] at h2
            cases h2
          · injection h2 with h2 _ _
            rw [hA] at h2
            injection h2 with h2
            subst h2
            have e2 : q5 = q6 := e
            rw [e2]
    · right
      rintro q rfl
      rw [own_map, hsz] at e
      injection e with e
      have e2 : q.block = w1.heap.size + 1 := e
      omega

theorem push6 {w1 w5 W : World} {g mb n c c5 : Nat} {A A5 : Option Addr} {xs : List Th} {f : Int → Option Nat} {x : Th} (h : P5 w1 w5 g mb n c A xs f x A5 c5) (hW : w5.setCell ⟨g, 2, none⟩ (.slice A5 (xs.length + 1) c5) = W) :
    Blk W g 57 #[.func (.func 17) #[] #[], .func (.func 18) #[] #[], .slice A5 (xs.length + 1) c5, .map (some mb)] ∧ Sl W 2 (.slice A5 (xs.length + 1) c5) (xs.length + 1) (flatV Th.vs (xs ++ [x])) ∧ (∃ F, MapV Try.prog 3 W mb n F ∧ RelF F f) ∧ KeepH g mb A w1 W := by
  subst hW
  obtain ⟨F, m1, m2⟩ := h.mp
  refine ⟨?_, h.it.far (p := ⟨g, 2, none⟩) (fun q hq => (h.ne.2 q hq).1) _, ⟨F, m1.far (p := ⟨g, 2, none⟩) (fun e => h.ne.1 e.symm) _, m2⟩, KeepK.setCell h.kp (p := ⟨g, 2, none⟩) (fun b hb => hb.2.1) _⟩
  have h2 := h.bx.set_ 2 (.slice A5 (xs.length + 1) c5)
  simpa using h2
theorem push7 {w1 W w7 : World} {g mb n c c5 : Nat} {A A5 : Option Addr} {xs : List Th} {f : Int → Option Nat} {x : Th} (h : HS w1 g mb A c xs f n) (hx : x.ok) (hf : f x.id = none) (hn : n + 1 ≤ 1000) (hl : xs.length + 1 ≤ 1000)
    (hne : ∀ q, (Value.slice A5 (xs.length + 1) c5).ownBlock = some q → q ≠ g ∧ q ≠ mb)
    (hW : Blk W g 57 #[.func (.func 17) #[] #[], .func (.func 18) #[] #[], .slice A5 (xs.length + 1) c5, .map (some mb)] ∧ Sl W 2 (.slice A5 (xs.length + 1) c5) (xs.length + 1) (flatV Th.vs (xs ++ [x])) ∧ (∃ F, MapV Try.prog 3 W mb n F ∧ RelF F f) ∧ KeepH g mb A w1 W)
    (hm : ∃ F, MapV Try.prog 3 w7 mb (n + 1) F ∧ RelF F (putF f x.id xs.length)) (g7 : W.drew.grownBy w7 (some mb)) :
    HS w7 g mb A5 c5 (xs ++ [x]) (putF f x.id xs.length) (n + 1) ∧ KeepH g mb A w1 w7 := by
  have hL : (xs ++ [x]).length = xs.length + 1 := by simp
  have kk : ∀ b, b < W.heap.size → b ≠ mb → w7.heap[b]? = W.heap[b]? := fun b hb hn' => g7.block b hb (fun e => hn' (Option.some.inj e))
  have zz : W.heap.size ≤ w7.heap.size := g7.size
  refine ⟨⟨?_, ?_, hm, ⟨h.ne.1, fun q hq => ?_⟩, h.pl.push hf, fun y hy => ?_, ⟨hn, by rw [hL]; exact hl⟩⟩, hW.2.2.2.trans ⟨g7.os, g7.tape, g7.output, zz, fun b hb => kk b hb.1 hb.2.2.1⟩⟩
  · rw [hL]
    exact (kk g hW.1.lt h.ne.1).trans hW.1
  · rw [hL]
    refine hW.2.1.keep zz fun q hq => ?_
    exact kk q (hW.2.1.lt q hq) (hne q hq).2
  · rw [hL] at hq
    exact hne q hq
  · rcases List.mem_append.1 hy with hy | hy
    · exact h.ok y hy
    · rw [List.mem_singleton.1 hy]; exact hx

/-- What push leaves. -/
def PushP (g mb : Nat) (A : Option Addr) (xs : List Th) (n : Nat) (x : Th) (hasK : Bool) (w : World) (e : Ending) (w' : World) : Prop :=
  (hasK = true ∧ e = .returned (.bool false) ∧ Below w.heap.size w w') ∨
  (hasK = false ∧ e = .returned (.bool true) ∧ ∃ A' c' ys f', HS w' g mb A' c' ys f' (n + 1) ∧ HeapL ys ∧ ys.length = xs.length + 1 ∧ (∀ y, y ∈ ys ↔ y ∈ xs ++ [x]) ∧ KeepH g mb A w w' ∧ (A' = A ∨ ∀ q, A' = some q → w.heap.size ≤ q.block))

set_option maxRecDepth 100000 in
set_option maxHeartbeats 16000000 in
theorem push_any {w : World} {g mb n c : Nat} {A : Option Addr} {xs : List Th} {f : Int → Option Nat} (h : HS w g mb A c xs f n) (hh : HeapL xs) (x : Th) (hx : x.ok) (hn : n + 1 ≤ 1000) (hl : xs.length + 1 ≤ 1000) :
    Calls Try.prog 20 #[.pointer (some ⟨g, 0, none⟩), x.val] w (PushP g mb A xs n x (f x.id).isSome w) := by
  obtain ⟨i0, hi0, hz0, hz1, hz2⟩ := info_parts info_th
  have H := Lib.hid (And.intro h (And.intro hh (And.intro hx (And.intro hn hl))))
  have hgw := h.bx.lt
  clear h hh hx hn hl
  have HKY := Lib.hid (fun W => show Calls Try.prog 18 #[.agg #[.int .i64 x.id, .int .i64 x.t]] W (fun e w' => e = .returned (.int .i64 x.id) ∧ Below W.heap.size W w') from key35_any x W)
  dsimp only [Th.val]
  go_enter Try.func20, Try.ntmps20
  go_wp2_with (fail)
  obtain ⟨V, hV⟩ : ∃ V, w.alloc (.cells #[.int .i64 x.id, .int .i64 x.t] 50) = V := ⟨_, rfl⟩
  have HV := Lib.hid (show Below w.heap.size w V ∧ Blk V w.heap.size 50 #[.int .i64 x.id, .int .i64 x.t] ∧ V.heap.size = w.heap.size + 1 from by
    rw [← hV]; exact ⟨(Below.refl _ _).alloc (Nat.le_refl _) _, Blk.new _ _ _, by simp⟩)
  rw [hV]
  clear hV
  have HKA : RowKit.Hid (∀ w', Below V.heap.size V w' → w'.cell? ⟨g, 1, none⟩ = some (.func (.func 18) #[] #[]) ∧ w'.cell? ⟨w.heap.size, 0, none⟩ = some (.int .i64 x.id) ∧ w'.cell? ⟨w.heap.size, 1, none⟩ = some (.int .i64 x.t)) := Lib.hid (fun w' hb => by
    have k0 := (H.out.1.bx.below HV.out.1 H.out.1.bx.lt).below hb (by have := HV.out.2.2; omega)
    have k1 := HV.out.2.1.below hb HV.out.2.1.lt
    exact ⟨k0.cell 1, k1.cell 0, k1.cell 1⟩)
  have R0 : Below V.heap.size V V := Below.refl _ _
  go_region_held3 (fun w' => w'.cell? ⟨g, 1, none⟩ = some (.func (.func 18) #[] #[]) ∧ w'.cell? ⟨w.heap.size, 0, none⟩ = some (.int .i64 x.id) ∧ w'.cell? ⟨w.heap.size, 1, none⟩ = some (.int .i64 x.t))
    (first | with_reducible assumption | with_reducible exact HKA.out _ R0 | with_reducible exact HKA.out _ R0.drew)
    (first | (go_at_call 18; (with_reducible refine (HKY.out _).mono ?_); rintro e w1 ⟨rfl, hb1⟩; have hb1' : Below V.heap.size V w1 := (Below.refl V.heap.size V).drew.trans hb1; have hS1 := HKA.out _ hb1'; have H1 := Lib.hid hb1'; clear hb1 hb1'))
  have HS1 := Lib.hid (show HS w1 g mb A c xs f n ∧ Below w.heap.size w w1 ∧ Blk w1 w.heap.size 50 #[.int .i64 x.id, .int .i64 x.t] ∧ w.heap.size < w1.heap.size from by
    have hb := HV.out.1.trans (H1.out.mono HV.out.1.size)
    exact ⟨H.out.1.below hb, hb, HV.out.2.1.below H1.out HV.out.2.1.lt, by have := H1.out.size; have := HV.out.2.2; omega⟩)
  clear hS1 HV HKA
  have g3 := HS1.out.1.bx.cell 3
  have hlk := look35 HS1.out.1.mp x.id H.out.2.2.1.1
  cases hfx : f x.id with
  | some p =>
    rw [hfx] at hlk
    simp only [Option.getD_some, Option.isSome_some] at hlk
    have HFX := Lib.hid hfx
    clear hfx
    go_wp2_with (fail)
    go_ret
    exact .inl ⟨by rw [HFX.out]; rfl, rfl, HS1.out.2.1⟩
  | none =>
    rw [hfx] at hlk
    simp only [Option.getD_none, Option.isSome_none] at hlk
    have HFX := Lib.hid hfx
    clear hfx
    go_wp2_with (fail)
    clear hlk g3
    obtain ⟨ob, hob⟩ : ∃ ob : Obj, ob = .cells #[.int .i64 x.id, .int .i64 x.t] 50 := ⟨_, rfl⟩
    have hw1 := HS1.out.2.2.2
    have hg1 := HS1.out.1.bx.lt
    have c2 := HS1.out.1.bx.cell 2
    have f2 := HS1.out.1.bx.frozen 2
    have x0 := HS1.out.2.2.1.cell 0
    have x1 := HS1.out.2.2.1.cell 1
    have c2' := (World.cell?_alloc_lt w1.drew (.cells #[.int .i64 x.id, .int .i64 x.t] 50) ⟨g, 2, none⟩ hg1).trans c2
    have HSL := Lib.hid (HS1.out.1.it.drew.alloc (.cells #[.int .i64 x.id, .int .i64 x.t] 50))
    have HSR := Lib.hid (src_th (P := Try.prog) Try.underlying53 w1.drew 50 x)
    have hl1 := H.out.2.2.2.2
    clear hob
    go_region_law (refine step_append_sl _ (by rfl) (.tmp 28) (.tmp 30) 53 53 rfl 50 i0 (.agg #[.int .i64 0, .int .i64 0]) 2 16 Try.underlying53 hi0 hz0 hz1 hz2 rfl (.slice A xs.length c) xs.length _ rfl HSL.out (.slice (some ⟨w1.heap.size, 0, none⟩) 1 1) rfl 1 _ HSR.out (by unfold maxLen; omega) (by omega) ?_; intro v5 w5 hs5 hg5 hv5; obtain ⟨A5, c5, rfl, h5⟩ := push5 HS1.out.1 hs5 hg5 hv5; have e5 := h5.bx.cell 2; have q5 := h5.bx.frozen 2; have H5 := Lib.hid h5; clear h5 hs5 hg5 hv5)
    all_goals
      obtain ⟨W, hW⟩ : ∃ W, w5.setCell ⟨g, 2, none⟩ (.slice A5 (xs.length + 1) c5) = W := ⟨_, rfl⟩
      have H6 := Lib.hid (push6 H5.out hW)
      rw [hW]
      clear hW e5 q5 c2 c2' f2 x0 x1
      obtain ⟨w7, hst7, hm7, hg7, hc7, hf7⟩ := map_more H6.out.2.2.1 x.id H.out.2.2.1.1 HS1.out.1.nb.1 xs.length W.drew (Below.refl W.heap.size W).drew
      have H7 := Lib.hid (push7 HS1.out.1 H.out.2.2.1 HFX.out H.out.2.2.2.1 H.out.2.2.2.2 H5.out.ne.2 H6.out hm7 hg7)
      have d2 : W.cell? ⟨g, 2, none⟩ = some (.slice A5 (xs.length + 1) c5) := H6.out.1.cell 2
      have d3 : W.cell? ⟨g, 3, none⟩ = some (.map (some mb)) := H6.out.1.cell 3
      have hS0 : W.drew.cell? ⟨g, 2, none⟩ = some (.slice A5 (xs.length + 1) c5) ∧ W.drew.cell? ⟨g, 3, none⟩ = some (.map (some mb)) := ⟨d2, d3⟩
      have hS7 : w7.cell? ⟨g, 2, none⟩ = some (.slice A5 (xs.length + 1) c5) ∧ w7.cell? ⟨g, 3, none⟩ = some (.map (some mb)) := ⟨(hc7 _).trans d2, (hc7 _).trans d3⟩
      have hwr : IntKind.i64.wrap (xs.length : Int) = (xs.length : Int) := by rw [IntKind.wrap_i64]; omega
      clear hm7 hg7 hc7 hf7 d2 d3 hgw hw1 hg1
      go_wp2_with (fail)
      go_region_held3 (fun w' => w'.cell? ⟨g, 2, none⟩ = some (.slice A5 (xs.length + 1) c5) ∧ w'.cell? ⟨g, 3, none⟩ = some (.map (some mb)))
        (first | with_reducible assumption | exact hS0 | exact hS7) (fail)
      clear hwr hS0 hS7 hst7
      have hz1 := HS1.out.2.1.size
      have HUP := Lib.hid (up_any H7.out.1 xs.length (by simp) (push_up H.out.2.1 x))
      have e2 := H7.out.1.bx.cell 2
      have hL : (xs ++ [x]).length = xs.length + 1 := by simp
      rw [hL] at e2
      clear hL hz1
      go_wp2_with (go_at_call 24; refine HUP.out.mono ?_; rintro e w8 ⟨⟨v8, rfl⟩, h8⟩; have H8 := Lib.hid h8; clear h8)
      go_ret
      obtain ⟨ys, f', k1, k2, k3, k4, k5⟩ := H8.out
      have hz1 := HS1.out.2.1.size
      refine .inr ⟨by rw [HFX.out]; rfl, rfl, A5, c5, ys, f', k1, k2, by rw [k3]; simp, k4, ?_, ?_⟩
      · have hz7 := H7.out.2.size
        refine KeepK.trans (KeepK.of_below HS1.out.2.1 fun _ hb => hb.1) (KeepK.trans (KeepK.mono H7.out.2 fun b hb => ⟨Nat.lt_of_lt_of_le hb.1 hz1, hb.2⟩) (KeepK.mono k5 fun b hb => ⟨by have := hb.1; omega, hb.2.1, hb.2.2.1, fun q hq => ?_⟩))
        rcases H5.out.an with h | h
        · exact hb.2.2.2 q (h ▸ hq)
        · have := h q hq
          have := hb.1
          omega
      · rcases H5.out.an with h | h
        · exact .inl h
        · exact .inr fun q hq => by have := h q hq; omega
end Go.Proofs.Ytkdijafnakpfhaa
