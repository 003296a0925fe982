/- The walk of hosts.Parse, at an address' own text. Condition: the table of powers lies in memory as the program's text lays it. -/
import Derived.Test.YtenmhfhnhfhooaaDoorHostP
import Derived.Test.YtenmhfhnhfhooaaDoorSplit
import Derived.Test.YtenmhfhnhfhooaaDoorPu
namespace Go.Proofs.YtenmhfhnhfhooaaDoor
open Go.RowKit Go.Shelf
attribute [local go_sem] Oper.semAt_some

theorem res_cell_cell {P : Program} {fn : Func} {p q : Tmp} {ty tz : TypeId} (h : fn.results = #[.cell p ty, .cell q tz]) (tmps : Array Value) (w : World) (a b : Addr) (u v : Value)
    (hp : tmps.getD p undef = .pointer (some a)) (hu : (loadVar ty a).run P w = .ok u w) (hq : tmps.getD q undef = .pointer (some b)) (hv : (loadVar tz b).run P w = .ok v w) :
    (results fn tmps).run P w = .ok (.tuple #[u, v]) w := by
  have h1 : (results fn tmps).run P w =
      ((asAddr (tmps.getD p undef)).run P w).andThen fun a w₁ => ((loadVar ty a).run P w₁).andThen fun v w₂ => ((asAddr (tmps.getD q undef)).run P w₂).andThen fun b w₃ => ((loadVar tz b).run P w₃).andThen fun u w₄ => .ok (.tuple #[v, u]) w₄ := by
    simp only [results, h]
    simp [Sem.run_bind, Result.andThen]
  rw [h1, hp, hq]
  simp [asAddr, Result.andThen, hu, hv]
theorem load_errnoQ (w : World) (a : Addr) (v : Value) (h : w.cell? a = some v) : (loadVar 26 a).run Tryd.prog w = .ok v w := by
  simp [loadVar, go_sem, h, Tryd.isAgg26, Tryd.sizeOf26]
theorem load_u32 (w : World) (a : Addr) (v : Value) (h : w.cell? a = some v) : (loadVar 22 a).run Tryd.prog w = .ok v w := by
  simp [loadVar, go_sem, h, Tryd.isAgg22, Tryd.sizeOf22]
theorem bits_or_u32_nat (a b : Nat) (ha : a < 4294967296) (hb : b < 4294967296) :
    bits .or .u32 (a : Int) (b : Int) = ((a ||| b : Nat) : Int) := by
  have hx : a ||| b < 2 ^ 32 := Nat.or_lt_two_pow (by omega) (by omega)
  have h1 : (BitVec.ofInt 32 (a : Int)).toNat = a := by
    rw [BitVec.ofInt_natCast, BitVec.toNat_ofNat]; exact Nat.mod_eq_of_lt (by omega)
  have h2 : (BitVec.ofInt 32 (b : Int)).toNat = b := by
    rw [BitVec.ofInt_natCast, BitVec.toNat_ofNat]; exact Nat.mod_eq_of_lt (by omega)
  show IntKind.u32.wrap ((BitVec.ofInt 32 (a : Int) ||| BitVec.ofInt 32 (b : Int)).toNat : Int) = _
  have W := fun x : Int => show IntKind.u32.wrap x = x % 4294967296 by simp [IntKind.wrap, IntKind.signed, IntKind.bits]
  rw [BitVec.toNat_or, h1, h2, W]
  omega
/-- What the first k words of an address' text spell. -/
def headA (a k : Nat) : Nat := a / 256 ^ (4 - k)
theorem headA_zero {a : Nat} (h : a ≤ 4294967295) : headA a 0 = 0 := by unfold headA; omega
theorem headA_four (a : Nat) : headA a 4 = a := by simp [headA]
theorem headA_succ (a k : Nat) (h : k < 4) : headA a (k + 1) = headA a k * 256 + numA a k := by
  unfold headA numA
  rcases (show k = 0 ∨ k = 1 ∨ k = 2 ∨ k = 3 by omega) with rfl | rfl | rfl | rfl <;> simp <;> omega
theorem headA_or (x n : Nat) (h : n < 256) : (x * 256) ||| n = x * 256 + n := by
  rw [show x * 256 = 2 ^ 8 * x by omega]
  exact (Nat.two_pow_add_eq_or_of_lt (by omega) x).symm
theorem no_dot (a : Nat) : ∀ x ∈ numsA a 4, (46 : UInt8) ∉ x := by
  have : ∀ u : Fin 256, (46 : UInt8) ∉ Lib.decDigits u.1 := by decide +kernel
  intro x hx
  obtain ⟨i, _, rfl⟩ := List.mem_map.1 hx
  exact this ⟨numA a i, numA_lt a i⟩
theorem drop_short (a k : Nat) : (Lib.join ((numsA a 4).drop k) [46]).length ≤ 1000000 := by
  have h0 := digits_len (numA_lt a 0)
  have h1 := digits_len (numA_lt a 1)
  have h2 := digits_len (numA_lt a 2)
  have h3 := digits_len (numA_lt a 3)
  rw [numsA_4]
  match k with
  | 0 | 1 | 2 | 3 =>
    simp only [List.drop, join_two, Lib.join_one, List.length_append, List.length_cons]
    omega
  | k + 4 => simp [Lib.join]
theorem nums_at {a : Nat} {pre : List Bs} {x : Bs} (h : pre ++ [x] <+: numsA a 4) : pre.length < 4 ∧ x = Lib.decDigits (numA a pre.length) := by
  have hl := h.length_le
  rw [List.length_append, numsA_length] at hl
  simp at hl
  refine ⟨by omega, ?_⟩
  have := h.getElem (i := pre.length) (by simp)
  simp [numsA] at this
  exact this

theorem head_val (a k : Nat) (ha : a ≤ 4294967295) (hk : k < 4) : bits .or .u32 ((headA a k : Int) * 256 % 4294967296) (numA a k : Int) = (headA a (k + 1) : Int) := by
  have hlt := numA_lt a k
  have hx : headA a k ≤ 16777215 := by
    unfold headA
    rcases (show k = 0 ∨ k = 1 ∨ k = 2 ∨ k = 3 by omega) with rfl | rfl | rfl | rfl <;> simp <;> omega
  rw [show (headA a k : Int) * 256 % 4294967296 = ((headA a k * 256 : Nat) : Int) by omega, bits_or_u32_nat _ _ (by omega) (by omega), headA_or _ _ hlt, headA_succ a k hk]

set_option maxRecDepth 100000 in
set_option maxHeartbeats 4000000 in
theorem parseA_any (a : Nat) (ha : a ≤ 4294967295) (w : World) (htab : PowTab w) :
    Calls Tryd.prog 19 #[.string ⟨(printA a).toArray⟩] w fun e w' => e = .returned (.tuple #[.int .u32 (a : Int), .int .i64 0]) ∧ Below w.heap.size w w' := by
  obtain ⟨n, hn⟩ : ∃ n : Nat, 8 ≤ n := ⟨8, by omega⟩
  refine (callsIn_wide (n := n)).1 ?_
  have h1n : 1 ≤ n := by omega
  have hpl := printA_len a
  obtain ⟨s, hs⟩ : ∃ s : ByteArray, (⟨(printA a).toArray⟩ : ByteArray) = s := ⟨_, rfl⟩
  have hsz : (s.size : Int) ≤ 15 := by rw [← hs]; simp [ByteArray.size]; omega
  rw [hs]
  have HT := Lib.hid (And.intro htab hs)
  clear htab hpl
  refine callsIn_of_wp_marks Tryd.func19 rfl trivial ?_ rfl
  simp only [Tryd.ntmps19, List.size_toArray, List.length_cons, List.length_nil, Nat.reduceAdd, Nat.reduceSub, Array.replicate_succ, Array.replicate_zero, List.push_toArray, List.append_toArray, List.nil_append, List.cons_append]
  gi_wp2_with (refine ⟨trivial, ?_⟩; gi_at_call 31; refine (splitSeq_in _ s _).mono ?_; rintro e w' ⟨rfl, rfl⟩)
  obtain ⟨W0, hW0⟩ : ∃ W0, (((((w.alloc (.cells #[.int .u32 0] 22)).alloc (.cells #[.int .i64 0] 26)).alloc (.cells #[.int .u32 0] 22)).alloc (.cells #[.string s] 9)).alloc (.cells #[.string ⟨#[46]⟩] 9)).alloc (.cells #[.int .i64 0] 3) = W0 := ⟨_, rfl⟩
  have hsz0 : W0.heap.size = w.heap.size + 6 := by rw [← hW0]; simp
  have hbW : Below w.heap.size w W0 := by rw [← hW0]; exact ((((((Below.refl _ _).alloc (Nat.le_refl _) _).alloc (by simp) _).alloc (by simp; omega) _).alloc (by simp; omega) _).alloc (by simp; omega) _).alloc (by simp; omega) _
  have b0 : Blk W0 w.heap.size 22 #[.int .u32 0] := by rw [← hW0]; exact (((((Blk.new w _ _).alloc _).alloc _).alloc _).alloc _).alloc _
  have b1 : Blk W0 (w.heap.size + 1) 26 #[.int .i64 0] := by
    rw [← hW0]
    have h := Blk.new (w.alloc (.cells #[.int .u32 0] 22)) 26 #[.int .i64 0]
    rw [World.size_alloc] at h
    exact (((h.alloc _).alloc _).alloc _).alloc _
  have b2 : Blk W0 (w.heap.size + 2) 22 #[.int .u32 0] := by
    rw [← hW0]
    have h := Blk.new ((w.alloc (.cells #[.int .u32 0] 22)).alloc (.cells #[.int .i64 0] 26)) 22 #[.int .u32 0]
    rw [World.size_alloc, World.size_alloc] at h
    exact ((h.alloc _).alloc _).alloc _
  have b3 : Blk W0 (w.heap.size + 3) 9 #[.string s] := by
    rw [← hW0]
    have h := Blk.new (((w.alloc (.cells #[.int .u32 0] 22)).alloc (.cells #[.int .i64 0] 26)).alloc (.cells #[.int .u32 0] 22)) 9 #[.string s]
    rw [World.size_alloc, World.size_alloc, World.size_alloc] at h
    exact (h.alloc _).alloc _
  have b4 : Blk W0 (w.heap.size + 3 + 1) 9 #[.string ⟨#[46]⟩] := by
    rw [← hW0]
    have h := Blk.new ((((w.alloc (.cells #[.int .u32 0] 22)).alloc (.cells #[.int .i64 0] 26)).alloc (.cells #[.int .u32 0] 22)).alloc (.cells #[.string s] 9)) 9 #[.string ⟨#[46]⟩]
    rw [World.size_alloc, World.size_alloc, World.size_alloc, World.size_alloc] at h
    exact h.alloc _
  have b5 : Blk W0 (w.heap.size + 3 + 2) 3 #[.int .i64 0] := by
    rw [← hW0]
    have h := Blk.new (((((w.alloc (.cells #[.int .u32 0] 22)).alloc (.cells #[.int .i64 0] 26)).alloc (.cells #[.int .u32 0] 22)).alloc (.cells #[.string s] 9)).alloc (.cells #[.string ⟨#[46]⟩] 9)) 3 #[.int .i64 0]
    rw [World.size_alloc, World.size_alloc, World.size_alloc, World.size_alloc, World.size_alloc] at h
    exact h
  rw [hW0]
  have hj : Lib.join (numsA a 4) [46] = printA a := rfl
  have hseq := split1_T (w.heap.size + 3) (numsA a 4) (no_dot a) (by rw [numsA_4]; simp) (fun k _ => drop_short a k) W0 (by rw [hj, hs]; exact b3) b4 b5
  clear hW0 b3 b4 b5
  apply rangeT (gf := 44) (lb := #[.pointer (some ⟨w.heap.size + 3 + 1, 0, none⟩), .pointer (some ⟨w.heap.size + 3, 0, none⟩), .pointer (some ⟨w.heap.size + 3 + 2, 0, none⟩)]) rfl (enters_of Tryd.func44 (by kernel_rfl) rfl)
    hseq (by omega) (Below.refl _ _) (fun _ => rfl)
    (fun _ pre V => Blk V w.heap.size 22 #[.int .u32 0] ∧ Blk V (w.heap.size + 1) 26 #[.int .i64 0] ∧ Blk V (w.heap.size + 1 + 1) 22 #[.int .u32 (headA a pre.length : Int)] ∧ Below w.heap.size w V ∧ w.heap.size + 6 ≤ V.heap.size)
    (fun _ _ _ _ => False)
    ?hI (fun _ _ _ _ _ h => h.elim) ?h0
  case hI =>
    rintro X pre A A' ⟨h1, h2, h3, h4, h5⟩ ho
    have hs5 := ho.size
    exact ⟨(ho.block _ (by omega) ⟨.inl (by omega), by omega⟩).trans h1, (ho.block _ (by omega) ⟨.inl (by omega), by omega⟩).trans h2, (ho.block _ (by omega) ⟨.inl (by omega), by omega⟩).trans h3,
      ⟨ho.os.trans h4.os, ho.tape.trans h4.tape, ho.output.trans h4.output, Nat.le_trans h4.size ho.size, fun i hi => (ho.block i (by omega) ⟨.inl (by omega), by omega⟩).trans (h4.block i hi)⟩, by omega⟩
  case h0 =>
    intro X V hV hX
    have := hV.size
    refine ⟨(hV.block _ (by omega)).trans b0, (hV.block _ (by omega)).trans b1, ?_, hbW.trans (hV.mono hbW.size), by omega⟩
    rw [show headA a ([] : List Bs).length = 0 from headA_zero ha]
    exact (hV.block _ (by omega)).trans b2
  case hassign =>
    intro l x V K hK
    gi_wp2
    exact hK
  case hbody =>
    rintro l X pre x V hV ⟨h1, h2, h3, h4, h5⟩ hpre
    obtain ⟨hp4, rfl⟩ := nums_at hpre
    have c0 := h3.cell 0
    have f0 := h3.frozen 0
    have HP := Lib.hid (CallsIn.inRound l ((callsIn_wide (n := n - 1 - 1 - 1)).2 (parse8_any (numA a pre.length) (numA_lt a pre.length) V)))
    have HB := Lib.hid (And.intro h1 (And.intro h2 (And.intro h3 (And.intro h4 h5))))
    clear h1 h2 h3 h4 h5 hseq hpre hs
    gi_wp2_with (fail)
    refine ⟨trivial, fun h => by simp [Fence.wide] at h, HP.out.mono ?_⟩
    rintro e V2 ⟨rfl, hb2⟩
    have h1 := HB.out.1.below hb2 HB.out.1.lt
    have h2 := HB.out.2.1.below hb2 HB.out.2.1.lt
    have h3 := HB.out.2.2.1.below hb2 HB.out.2.2.1.lt
    have d0 := h3.cell 0
    have e0 := h3.frozen 0
    have hsk := headA_succ a pre.length hp4
    have hval := Lib.hid (head_val a pre.length ha hp4)
    have hlt := numA_lt a pre.length
    have H2 := Lib.hid (And.intro h1 (And.intro h2 (And.intro h3 hb2)))
    clear h1 h2 h3 hb2 HP
    gi_wp2_with (fail)
    rw [hval.out]
    obtain ⟨h1, h2, h3, hb2⟩ := H2.out
    have h4 := HB.out.2.2.2.1
    have h5 := HB.out.2.2.2.2
    have h6 := hb2.size
    refine ⟨(KeepX.of_below hb2).trans (.cell _ ⟨.inl (by show w.heap.size + 1 + 1 < _; omega), .inl (by show w.heap.size + 1 + 1 < _; omega)⟩), h1.far (by show w.heap.size ≠ w.heap.size + 1 + 1; omega) _, h2.far (by show w.heap.size + 1 ≠ w.heap.size + 1 + 1; omega) _, ?_, ?_, by simp; omega⟩
    · rw [List.length_append]
      exact h3.set_ 0 _
    · exact (h4.trans (hb2.mono h4.size)).setCell (p := ⟨w.heap.size + 1 + 1, 0, none⟩) (by show w.heap.size ≤ w.heap.size + 1 + 1; omega) _
  case hdone =>
    rintro D X V hD hD2 ⟨h1, h2, h3, h4, h5⟩ hK
    rw [numsA_length, headA_four] at h3
    have c0 := h3.cell 0
    have HPr := Lib.hid ((callsIn_wide (n := n - 1)).2 (print_any a ha V (pow_below HT.out.1 h4)))
    have hne : (⟨(printA a).toArray⟩ : ByteArray) = s := HT.out.2
    rw [hne] at HPr
    have HB := Lib.hid (And.intro h1 (And.intro h2 (And.intro h3 (And.intro h4 (And.intro h5 hK)))))
    clear h1 h2 h3 h4 h5 hseq hs hne hK
    gi_wp2_with (fail)
    refine ⟨trivial, HPr.out.mono ?_⟩
    rintro e V2 ⟨rfl, hb2⟩
    have h1 := HB.out.1.below hb2 HB.out.1.lt
    have h2 := HB.out.2.1.below hb2 HB.out.2.1.lt
    have h3 := HB.out.2.2.1.below hb2 HB.out.2.2.1.lt
    have d0 := h3.cell 0
    have e0 := h1.frozen 0
    have e1 := h2.frozen 0
    have g0 := h1.cell 0
    have g1 := h2.cell 0
    have H2 := Lib.hid (And.intro h1 (And.intro h2 hb2))
    clear h1 h2 h3 hb2 HPr c0
    gi_wp2_with (fail)
    obtain ⟨h1, h2, hb2⟩ := H2.out
    obtain ⟨_, _, _, h4, h5, hK⟩ := HB.out
    have h6 := hb2.size
    have i1 := (h1.set_ 0 (.int .u32 (a : Int))).far (p := ⟨w.heap.size + 1, 0, none⟩) (show w.heap.size ≠ w.heap.size + 1 by omega) (.int .i64 0)
    have i2 := (h2.far (p := ⟨w.heap.size, 0, none⟩) (show w.heap.size + 1 ≠ w.heap.size by omega) (.int .u32 (a : Int))).set_ 0 (.int .i64 0)
    have hF : Below w.heap.size w ((V2.setCell ⟨w.heap.size, 0, none⟩ (.int .u32 (a : Int))).setCell ⟨w.heap.size + 1, 0, none⟩ (.int .i64 0)) :=
      ((h4.trans (hb2.mono h4.size)).setCell (p := ⟨w.heap.size, 0, none⟩) (Nat.le_refl _) _).setCell (p := ⟨w.heap.size + 1, 0, none⟩) (by show w.heap.size ≤ w.heap.size + 1; omega) _
    have hD3 : D < V.heap.size := (Array.getElem?_eq_some_iff.1 hK).1
    have hKF : ((V2.setCell ⟨w.heap.size, 0, none⟩ (.int .u32 (a : Int))).setCell ⟨w.heap.size + 1, 0, none⟩ (.int .i64 0)).heap[D]? = some (.deferred (some [])) := by
      rw [Below.heap_setCell _ _ _ _ (by show D ≠ w.heap.size + 1; omega), Below.heap_setCell _ _ _ _ (by show D ≠ w.heap.size; omega), hb2.block _ hD3]
      exact hK
    generalize ((V2.setCell ⟨w.heap.size, 0, none⟩ (.int .u32 (a : Int))).setCell ⟨w.heap.size + 1, 0, none⟩ (.int .i64 0)) = F at *
    have j1 : Blk (F.putObj D (.deferred none)) w.heap.size 22 #[.int .u32 (a : Int)] := (World.putObj_heap_other (by omega)).trans i1
    have j2 : Blk (F.putObj D (.deferred none)) (w.heap.size + 1) 26 #[.int .i64 0] := (World.putObj_heap_other (by omega)).trans i2
    exact ⟨by simp, .inl ⟨_, _, rfl, run_takeDeferred hKF, _, res_cell_cell rfl _ _ ⟨w.heap.size, 0, none⟩ ⟨w.heap.size + 1, 0, none⟩ (.int .u32 (a : Int)) (.int .i64 0) rfl (load_u32 _ _ _ (j1.cell 0)) rfl (load_errnoQ _ _ _ (j2.cell 0)), rfl, hF.trans (belowK_b (w := w) (Nat.le_refl _) F D _ _ (by omega) hKF rfl rfl)⟩⟩
  case hstop =>
    rintro D X c pre V hD _ _ h _
    exact h.elim
end Go.Proofs.YtenmhfhnhfhooaaDoor
