/- The walk of package pack's Writer's name, Name, Full, Len. Conditions: none. -/
import Derived.Test.YtgfpnkakglgokaaPackM
import Derived.Test.YtgfpnkakglgokaaReaderN
import Derived.Test.YtgfpnkakglgokaaCheck
import Derived.Test.YtgfpnkakglgokaaMapR
import Derived.Test.YtgfpnkakglgokaaRes
import Derived.Deep.DeepMust
import Derived.Outline
namespace Go.Proofs.Ytgfpnkakglgokaa
open Go.RowKit Go.Lib

def fR (R : Rests) : Lit → Option Value
  | .string k => (R k).map fun p => .int .i64 (p : Int)
  | _ => none
theorem fR_upd (R : Rests) (k : Bs) (p : Nat) (x : Lit) : (if x.sameKey (.string k) then some (Value.int .i64 (p : Int)) else fR R x) = fR (updR R k p) x := by
  by_cases h : x = .string k
  · subst h
    rw [if_pos (WideAt.sameKey_self (show WideAt.IsKeyLit (.string k) from trivial))]
    simp [fR, updR]
  · rw [if_neg (by rw [Maps.sameKey_ne h]; simp)]
    cases x with
    | string s =>
      have : s ≠ k := fun e => h (by rw [e])
      simp [fR, updR, this]
    | _ => rfl
/-- A writer whose rests are known; what is named in K lies apart. -/
def Wn (K : Nat → Prop) (w : World) (b mb cnt : Nat) (lim : Int) (l : Bs) (R : Rests) : Prop :=
  Wr (fun i => K i ∨ i = mb) w b lim false (.map (some mb)) l ∧ MapV Try.prog 9 w mb cnt (fR R) ∧ ¬ K mb
section
variable {K : Nat → Prop} {w w' : World} {b mb cnt : Nat} {lim : Int} {l : Bs} {R : Rests}
theorem Wn.below (h : Wn K w b mb cnt lim l R) (hb : Below w.heap.size w w') : Wn K w' b mb cnt lim l R := ⟨h.1.below hb, h.2.1.below hb h.2.1.lt, h.2.2⟩
theorem Wn.drewN (h : Wn K w b mb cnt lim l R) (n : Nat) : Wn K (w.drewN n) b mb cnt lim l R := h
/-- The writer's own calls that leave the map alone. -/
theorem Wn.turn {l' : Bs} (h : Wn K w b mb cnt lim l R) (h1 : Wr (fun i => K i ∨ i = mb) w' b lim false (.map (some mb)) l') (h2 : KeepK (fun i => K i ∨ i = mb) w w') : Wn K w' b mb cnt lim l' R := ⟨h1, h.2.1.keepK h2 (.inr rfl), h.2.2⟩
/-- What the caller does with its own blocks and new ones. -/
theorem Wn.fresh (h : Wn K w b mb cnt lim l R) (hk : KeepK (fun i => i < w.heap.size ∧ ¬ K i) w w') : Wn (fun i => K i ∨ (w.heap.size ≤ i ∧ i < w'.heap.size)) w' b mb cnt lim l R := by
  obtain ⟨⟨h1, v, h2, h3, h4⟩, h5, h6⟩ := h
  have hs := hk.size
  have hbK : ¬ K b := fun e => (h1 b (.inl e)).2 rfl
  have hmb := h1 mb (.inr rfl)
  refine ⟨⟨fun i hi => ?_, v, h2.keepK hk ⟨h2.lt, hbK⟩, h3.keepK hk (fun g hg => ⟨h3.lt g hg, fun e => (h4 g hg).2 (.inl e)⟩), fun g hg => ⟨(h4 g hg).1, fun e => ?_⟩⟩, h5.keepK hk ⟨h5.lt, h6⟩, fun e => ?_⟩
  · have hb := h2.lt
    rcases hi with (hi | hi) | hi
    · have := h1 i (.inl hi); exact ⟨by omega, this.2⟩
    · exact ⟨hi.2, by omega⟩
    · subst hi; exact ⟨by omega, hmb.2⟩
  · rcases e with (e | e) | e
    · exact (h4 g hg).2 (.inl e)
    · have := h3.lt g hg; omega
    · exact (h4 g hg).2 (.inr e)
  · rcases e with e | e
    · exact h6 e
    · have := h5.lt; omega
end
theorem wn_new (lim : Int) (w : World) :
    Calls Try.prog 22 #[.int .i64 lim] w fun e w' => ∃ b mb, e = .returned (.pointer (some ⟨b, 0, none⟩)) ∧ Wn (fun i => i < w.heap.size) w' b mb 0 lim [] (fun _ => none) ∧ Below w.heap.size w w' := by
  have hmm := @run_makeMap Try.prog
  go_enter Try.func22, Try.ntmps22
  go_wp2
  go_ret
  have hB := Blk.new (w.alloc (.map #[] 0)) 122 #[.slice none 0 0, .int .i64 lim, .bool false, .map (some w.heap.size)]
  rw [World.size_alloc] at hB
  refine ⟨w.heap.size + 1, w.heap.size, rfl, ⟨⟨fun i hi => ?_, .slice none 0 0, hB, Sl.nil _ _, fun g hg => by simp [Value.ownBlock] at hg⟩, ?_, by omega⟩, ((Below.refl _ _).alloc (Nat.le_refl _) _).alloc (by simp) _⟩
  · rcases hi with hi | rfl
    · exact ⟨by simp; omega, by omega⟩
    · exact ⟨by simp <;> omega, by omega⟩
  · exact ((MapV.made w _ _).alloc _).congr fun kl => by cases kl <;> rfl

theorem wLen_any {K : Nat → Prop} {w : World} {b : Nat} {lim : Int} {full : Bool} {m : Value} {l : List UInt8} (h : Wr K w b lim full m l) :
    Calls Try.prog 52 #[.pointer (some ⟨b, 0, none⟩)] w fun e w' => e = .returned (.int .i64 (l.length : Int)) ∧ w = w' := by
  obtain ⟨h1, v, h2, h3, h4⟩ := h
  obtain ⟨A, c, rfl, _, _⟩ := h3.shape
  have c0 : w.cell? ⟨b, 0, none⟩ = some (.slice A l.length c) := h2.cell 0
  clear h1 h2 h3 h4
  go_enter Try.func52, Try.ntmps52
  go_wp2
  go_ret
  exact ⟨rfl, rfl⟩

theorem big2 (p : Nat) (_h : p < 16384) : bigB (49152 + p) 2 = [UInt8.ofNat (192 + p / 256), UInt8.ofNat (p % 256)] := by
  unfold bigB
  simp [List.range, List.range.loop, bigI]
  constructor
  · apply UInt8.toNat_inj.1
    rw [UInt8.toNat_ofNat', show (192 : UInt8) + UInt8.ofNat (p / 256) = UInt8.ofNat (192 + p / 256) from by simp, UInt8.toNat_ofNat']
    omega
  · congr 1; omega
theorem or_ptr (p : Nat) (h : p < 16384) : bits .or .u64 49152 (p : Int) = ((49152 + p : Nat) : Int) := by
  have := bits_or_u64_nat 49152 p (by omega) (by omega)
  rw [show ((49152 : Nat) : Int) = 49152 from rfl] at this
  rw [this, ← Nat.two_pow_add_eq_or_of_lt (i := 14) (b := p) (by omega) 3]
def NamePostW (K : Nat → Prop) (b mb cnt : Nat) (lim : Int) (x : Bs × Rests) (w : World) (e : Ending) (w' : World) : Prop :=
  e = .returned (.tuple #[]) ∧ (∃ c, c ≤ cnt ∧ Wn K w' b mb c lim x.1 x.2) ∧ KeepK K w w'
theorem string_keyed' : Maps.Keyed Try.prog 9 := Maps.string_keyed Try.underlying9
theorem zero_int (w : World) : (zeroValue 3).run Try.prog w = .ok (.int .i64 0) w := by kernel_rfl
theorem mk_cons (x : Bs) (xs : List Bs) : mk (x :: xs) = UInt8.ofNat x.length :: (x ++ mk xs) := by simp [mk, enc]

theorem byte_at (s : ByteArray) (a : Nat) (h : a < s.size) : s.data.toList[a]? = some (s[a]'h) := by
  rw [List.getElem?_eq_getElem (by simpa using h)]; rfl
/-- The first label of a name, and the rest. -/
theorem parts {nk : ByteArray} {x : Bs} {xs : List Bs} (h : nk.data.toList = mk (x :: xs)) (hx : okL x) :
    ∃ (S1 S2 : ByteArray) (m : Nat), x.length = m ∧ (∀ W, (Instr.slice 9 (.string nk) none (some (.int .i64 (1 + (m : Int)))) none).run Try.prog W = .ok (.string S1) W) ∧ (∀ W, (Instr.slice 9 (.string nk) (some (.int .i64 (1 + (m : Int)))) none none).run Try.prog W = .ok (.string S2) W) ∧
      S1.data.toList = UInt8.ofNat m :: x ∧ S2.data.toList = mk xs ∧ (∃ h0 : 0 < nk.size, (nk[0]'h0).toNat = m) ∧ m ≤ 63 := by
  unfold okL at hx
  rw [mk_cons] at h
  have hl : nk.size = 1 + x.length + (mk xs).length := by
    have := congrArg List.length h
    simp at this; omega
  refine ⟨nk.extract 0 (1 + x.length), nk.extract (1 + x.length) nk.size, x.length, rfl, fun W => ?_, fun W => ?_, ?_, ?_, ?_, hx.2⟩
  · have := run_slice_string_h (P := Try.prog) (w := W) (t := 9) (s := nk) Try.underlying9 .i64 (1 + (x.length : Int)) (by omega) (by omega)
    rw [this]
    congr 3
  · have := run_slice_string_l (P := Try.prog) (w := W) (t := 9) (s := nk) Try.underlying9 .i64 (1 + (x.length : Int)) (by omega) (by omega)
    rw [this]
    congr 3
  · have : (nk.extract 0 (1 + x.length)).data.toList = nk.data.toList.take (1 + x.length) := by simp
    rw [this, h, Nat.add_comm, List.take_succ_cons, List.take_left]
  · have : (nk.extract (1 + x.length) nk.size).data.toList = nk.data.toList.drop (1 + x.length) := by
      simp
      rw [List.take_of_length_le (by simp)]
    rw [this, h, Nat.add_comm, List.drop_succ_cons, List.drop_left]
  · refine ⟨by omega, ?_⟩
    have := byte_at nk 0 (by omega)
    rw [h] at this
    have h2 : UInt8.ofNat x.length = nk[0] := Option.some.inj this
    rw [← h2, UInt8.toNat_ofNat']; omega
theorem wr_shape {K : Nat → Prop} {w : World} {b : Nat} {lim : Int} {full : Bool} {m : Value} {l : List UInt8} (h : Wr K w b lim full m l) {v : Value} (hB : Blk w b 122 #[v, .int .i64 lim, .bool full, m]) : ∃ A c, v = .slice A l.length c := by
  obtain ⟨_, v', h2, h3, _⟩ := h
  have e := h2.cell 0
  have e' := hB.cell 0
  rw [e] at e'
  injection e' with e'
  obtain ⟨A, c, hv, _⟩ := h3.shape
  exact ⟨A, c, e'.symm.trans hv⟩
theorem Wr.keepK' {K : Nat → Prop} {w w' : World} {b mb : Nat} {lim : Int} {full : Bool} {m : Value} {l : List UInt8} (h : Wr (fun i => K i ∨ i = mb) w b lim full m l) (hk : KeepK (fun i => i < w.heap.size ∧ i ≠ mb) w w') : Wr (fun i => K i ∨ i = mb) w' b lim full m l :=
  h.keepK hk ⟨h.lt, fun e => (h.1 mb (.inr rfl)).2 e.symm⟩ (fun _ hg hl => ⟨hl, fun e => hg (.inr e)⟩)

set_option maxRecDepth 100000 in
set_option maxHeartbeats 8000000 in
theorem name_any (pt : Bool) {K : Nat → Prop} {w : World} {b mb cnt : Nat} {lim : Int} {l : Bs} {R : Rests} (n : ByteArray) (hn : isName n.data.toList = true) (h : Wn K w b mb cnt lim l R) (hfit : (l.length + n.size : Int) ≤ lim) (hlim : lim ≤ 140737488355000) (hcnt : cnt ≤ 1000000)
    (hR : ∀ k p, R k = some p → p < 16384) :
    Calls Try.prog 50 #[.pointer (some ⟨b, 0, none⟩), .string n, .bool pt] w (NamePostW K b mb (cnt + 255) lim (wname pt (labs n.data.toList).1 l R) w) := by
  have hnl := ((isName_iff _).1 hn).1
  have hsz : n.size ≤ 255 := by have : n.data.toList.length = n.size := by simp
                                omega
  have hck : chkN n.data.toList = 0 := by unfold chkN; rw [if_pos hn]
  have HCK := Lib.hid (fun W => Check_any n (by unfold maxLen; omega) W)
  obtain ⟨ls0, hls0⟩ : ∃ ls, (labs n.data.toList).1 = ls := ⟨_, rfl⟩
  have hmk : n.data.toList = mk ls0 := by rw [← hls0]; exact (mk_labs hn).symm
  have hok : ∀ x ∈ ls0, okL x := by rw [← hls0]; exact labs_ok _
  have hll : ls0.length ≤ 255 := by
    have h1 : ∀ ls : List Bs, ls.length ≤ (enc ls).length := fun ls => by
      induction ls with
      | nil => simp
      | cons x xs ih => rw [enc_length_cons]; simp; omega
    have := h1 ls0
    rw [hmk] at hnl
    simp [mk] at hnl
    omega
  rw [hls0]
  obtain ⟨X, hX⟩ : ∃ X, wname pt ls0 l R = X := ⟨_, rfl⟩
  rw [hX]
  obtain ⟨v, hB⟩ : ∃ v, Blk w b 122 #[v, .int .i64 lim, .bool false, .map (some mb)] := by
    obtain ⟨⟨_, v, h2, _⟩, _⟩ := h
    exact ⟨v, h2⟩
  have c2 := hB.cell 2
  have HH := Lib.hid (And.intro h (And.intro hfit (And.intro hlim (And.intro hcnt (And.intro hR (And.intro hX (And.intro hmk (And.intro hok (And.intro hll (And.intro hck hsz))))))))))
  clear h hfit hlim hcnt hR hX hmk hok hll hls0 hnl hsz hn hB hck
  go_enter Try.func50, Try.ntmps50
  go_wp2_with (fail)
  with_reducible refine (HCK.out _).mono ?_
  rintro e w1 ⟨rfl, hb1⟩
  rw [HH.out.2.2.2.2.2.2.2.2.2.1]
  have HW1 := Lib.hid (And.intro (HH.out.1.below hb1) (KeepK.of_below (K := K) hb1 fun i hi => (HH.out.1.1.1 i (.inl hi)).1))
  clear hb1 c2 HCK
  go_wp2_with (fail)
  go_loopg [1] ls0.length (fun gg v1 wr => ∃ (nk : ByteArray) (ls : List Bs) (lk : Bs) (Rk : Rests) (ck : Nat), v1 = .string nk ∧ Aside (gg = ls.length ∧ nk.data.toList = mk ls ∧ (∀ x ∈ ls, okL x) ∧ wname pt ls lk Rk = X ∧ ck + ls.length ≤ cnt + 255 ∧ (lk.length + nk.size : Int) ≤ lim ∧ nk.size ≤ 255 ∧ ∀ k p, Rk k = some p → p < 16384) ∧ Aside (Wn K wr b mb ck lim lk Rk) ∧ Aside (KeepK K w wr))
  case atStart => exact ⟨n, ls0, l, R, cnt, rfl, ⟨rfl, HH.out.2.2.2.2.2.2.1, HH.out.2.2.2.2.2.2.2.1, HH.out.2.2.2.2.2.1, by have := HH.out.2.2.2.2.2.2.2.2.1; omega, HH.out.2.1, HH.out.2.2.2.2.2.2.2.2.2.2, HH.out.2.2.2.2.1⟩, HW1.out.1, HW1.out.2⟩
  case round =>
    obtain ⟨nk, ls, lk, Rk, ck, rfl, hA, hW, hK⟩ := hrel
    have hlimS := HH.out.2.2.1
    match ls, hA with
    | [], hA =>
      have h1 : nk.size = 1 := by
        have := congrArg List.length hA.out.2.1
        simpa [mk, enc] using this
      have hI : ¬ (1 : Int) < (nk.size : Int) := by omega
      have HP := Lib.hid (piece_fits nk hW.out.1 (by have := hA.out.2.2.2.2.2.1; omega) ⟨by have := hA.out.2.2.2.2.2.1; omega, by omega⟩ (.inr hA.out.2.2.2.2.2.1))
      clear h1 hlimS
      go_wp2_with (fail)
      with_reducible refine HP.out.mono ?_
      rintro e w3 ⟨rfl, hw3, hk3⟩
      have H3 := Lib.hid (And.intro hw3 hk3)
      clear hw3 hk3
      go_wp2_with (fail)
      refine bodyPost_end (results_none rfl _ _ _) rfl ?_
      have hX := hA.out.2.2.2.1
      have hmk := hA.out.2.1
      have hX' : X = (lk ++ [0], Rk) := hX.symm
      refine ⟨rfl, ⟨ck, by have := hA.out.2.2.2.2.1; omega, ?_⟩, hK.out.trans (H3.out.2.mono fun i hi => .inl hi)⟩
      rw [hX']
      have := hW.out.turn H3.out.1 H3.out.2
      rw [hmk] at this
      exact this
    | x :: xs, hA =>
      have hx := hA.out.2.2.1 x (by simp)
      unfold okL at hx
      have hlen : nk.size = 1 + x.length + (mk xs).length := by
        have := congrArg List.length hA.out.2.1
        rw [mk_cons] at this
        simp at this
        omega
      have hml : 1 ≤ (mk xs).length := by simp [mk]
      have hI : (1 : Int) < (nk.size : Int) := by omega
      obtain ⟨v, hB⟩ : ∃ v, Blk wr b 122 #[v, .int .i64 lim, .bool false, .map (some mb)] := by
        obtain ⟨⟨_, v, h2, _⟩, _⟩ := hW.out
        exact ⟨v, h2⟩
      have c3 := hB.cell 3
      have hkey : keyOf Try.prog 9 (.string nk) = some (.string (mk (x :: xs))) := by rw [← hA.out.2.1]; exact WideMaps.keyOf_string_mk Try.underlying9 (by unfold maxLen; have := hA.out.2.2.2.2.2.2.1; omega)
      have hlk := hW.out.2.1.lookOk string_keyed' Try.underlying119 (zero_int _) hkey
      cases hRx : Rk (mk (x :: xs)) with
      | some p =>
        have hf : fR Rk (.string (mk (x :: xs))) = some (.int .i64 (p : Int)) := by simp [fR, hRx]
        rw [hf] at hlk
        simp only [Option.getD_some, Option.isSome_some] at hlk
        have hp16 := hA.out.2.2.2.2.2.2.2 _ _ hRx
        cases pt with
        | true =>
          have hpI : (p : Int) < 16384 := by omega
          have hor := or_ptr p hp16
          obtain ⟨q, hq⟩ : ∃ q, 49152 + p = q := ⟨_, rfl⟩
          rw [hq] at hor
          have HNU := Lib.hid (num_fits 2 (.inr (.inl rfl)) q (by omega) hW.out.1 (by have := hA.out.2.2.2.2.2.1; simp; omega) hlimS)
          have hX := hA.out.2.2.2.1
          unfold wname at hX
          rw [hRx] at hX
          simp only [if_pos] at hX
          have HE := Lib.hid (And.intro hX.symm (And.intro hq hp16))
          clear hRx hf hX hq hx hlen hml hkey hlimS hB
          go_wp2_with (fail)
          refine HNU.out.mono ?_
          rintro e w3 ⟨rfl, hw3, hk3⟩
          have H3 := Lib.hid (And.intro hw3 hk3)
          clear hw3 hk3
          go_wp2_with (fail)
          refine bodyPost_end (results_none rfl _ _ _) rfl ?_
          refine ⟨rfl, ⟨ck, by have := hA.out.2.2.2.2.1; omega, ?_⟩, hK.out.trans (H3.out.2.mono fun i hi => .inl hi)⟩
          rw [HE.out.1]
          have := hW.out.turn H3.out.1 H3.out.2
          rw [← HE.out.2.1, big2 p HE.out.2.2] at this
          exact this
        | false =>
          obtain ⟨S1, S2, m, hm, hs1, hs2, hd1, hd2, ⟨h0, hx0⟩, hm63⟩ := parts hA.out.2.1 (hA.out.2.2.1 x (by simp))
          have hX := hA.out.2.2.2.1
          unfold wname at hX
          rw [hRx] at hX
          simp only [Bool.false_eq_true, if_false] at hX
          have hz1 : S1.size = 1 + m := by
            have := congrArg List.length hd1
            simp at this; omega
          have hz2 : S2.size + (1 + m) = nk.size := by
            have := congrArg List.length hd2
            have h : S2.data.toList.length = S2.size := by simp
            omega
          have HP := Lib.hid (fun k => piece_fits (w := wr.drewN k) S1 (hW.out.1.drewN k) (by have := hA.out.2.2.2.2.2.1; omega) ⟨by have := hA.out.2.2.2.2.2.1; omega, by omega⟩ (.inr (by have := hA.out.2.2.2.2.2.1; omega)))
          have HE := Lib.hid (And.intro hX (And.intro hd1 (And.intro hd2 (And.intro hz1 (And.intro hz2 hm)))))
          obtain ⟨A, c, rfl⟩ := wr_shape hW.out.1 hB
          have c0 := hB.cell 0
          have hwrap : IntKind.i64.wrap (1 + (m : Int)) = 1 + (m : Int) := IntWalk.i64_in _ (by omega)
          clear hRx hf hX hx hlen hml hkey hlimS hB hz1 hz2 hd1 hd2 hm
          go_wp2_with (fail)
          go_quiet (fail)
          clear hwrap
          go_wp2_with (fail)
          with_reducible refine (HP.out _).mono ?_
          rintro e w3 ⟨rfl, hw3, hk3⟩
          have H3 := Lib.hid (And.intro hw3 hk3)
          clear hw3 hk3
          go_wp2_with (fail)
          go_roundg xs.length
          case measure => rw [hA.out.1]; simp
          case rel => exact ⟨S2, xs, _, Rk, ck, rfl, ⟨rfl, HE.out.2.2.1, fun y hy => hA.out.2.2.1 y (by simp [hy]), HE.out.1, by have := hA.out.2.2.2.2.1; simp at this; omega, by have := hA.out.2.2.2.2.2.1; have := HE.out.2.2.2.1; have := HE.out.2.2.2.2.1; have := HE.out.2.2.2.2.2; simp; omega, by have := hA.out.2.2.2.2.2.2.1; have := HE.out.2.2.2.2.1; omega, hA.out.2.2.2.2.2.2.2⟩, (by
            have := (hW.out.drewN _).turn H3.out.1 H3.out.2
            rw [HE.out.2.1, ← HE.out.2.2.2.2.2] at this
            exact this), (hK.out.drewN _).trans (H3.out.2.mono fun i hi => .inl hi)⟩
      | none =>
        have hf : fR Rk (.string (mk (x :: xs))) = none := by simp [fR, hRx]
        rw [hf] at hlk
        simp only [Option.getD_none, Option.isSome_none] at hlk
        obtain ⟨S1, S2, m, hm, hs1, hs2, hd1, hd2, ⟨h0, hx0⟩, hm63⟩ := parts hA.out.2.1 (hA.out.2.2.1 x (by simp))
        have hX := hA.out.2.2.2.1
        unfold wname at hX
        rw [hRx] at hX
        dsimp only at hX
        have hz1 : S1.size = 1 + m := by
          have := congrArg List.length hd1
          simp at this; omega
        have hz2 : S2.size + (1 + m) = nk.size := by
          have := congrArg List.length hd2
          have h : S2.data.toList.length = S2.size := by simp
          omega
        have HP := Lib.hid (fun k => piece_fits (w := wr.drewN k) S1 (hW.out.1.drewN k) (by have := hA.out.2.2.2.2.2.1; omega) ⟨by have := hA.out.2.2.2.2.2.1; omega, by omega⟩ (.inr (by have := hA.out.2.2.2.2.2.1; omega)))
        obtain ⟨A, c, rfl⟩ := wr_shape hW.out.1 hB
        have c0 := hB.cell 0
        have hwrap : IntKind.i64.wrap (1 + (m : Int)) = 1 + (m : Int) := IntWalk.i64_in _ (by omega)
        have HKEY := Lib.hid hkey
        by_cases h16 : lk.length < 16384
        · have h16I : (lk.length : Int) < 16384 := by omega
          rw [if_pos h16] at hX
          have HE := Lib.hid (And.intro hX (And.intro hd1 (And.intro hd2 (And.intro hz1 (And.intro hz2 (And.intro hm h16))))))
          clear hRx hf hX hx hlen hml hkey hlimS hB hz1 hz2 hd1 hd2 hm h16
          go_wp2_with (fail)
          go_quiet (fail)
          clear hwrap
          go_wp2_with (fail)
          with_reducible refine (HP.out _).mono ?_
          rintro e w3 ⟨rfl, hw3, hk3⟩
          have hW3 := (hW.out.drewN nq).turn hw3 hk3
          obtain ⟨v3, hB3⟩ : ∃ v, Blk w3 b 122 #[v, .int .i64 lim, .bool false, .map (some mb)] := by
            obtain ⟨_, v, h2, _⟩ := hw3
            exact ⟨v, h2⟩
          have d3 := hB3.cell 3
          obtain ⟨w4, hst, hM4, hg4, _, _⟩ := hW3.2.1.store string_keyed' Try.underlying119 (by have := hA.out.2.2.2.2.1; have := HH.out.2.2.2.1; unfold maxLen; omega) HKEY.out (show WideAt.IsKeyLit (.string _) from trivial) (.int .i64 (lk.length : Int))
          have hK4 : KeepK (fun i => i < w3.heap.size ∧ i ≠ mb) w3 w4 := (KeepK.refl _ _).grown hg4 (fun i hi => hi.1) (fun i hi e => hi.2 (Option.some.inj e))
          have H3 := Lib.hid (And.intro hW3 (And.intro hk3 (And.intro hM4 hK4)))
          clear hw3 hk3 hW3 hB3 hM4 hg4 hK4
          go_wp2_with (fail)
          go_roundg xs.length
          case measure => rw [hA.out.1]; simp
          case rel => exact ⟨S2, xs, _, updR Rk (mk (x :: xs)) lk.length, ck + 1, rfl, ⟨rfl, HE.out.2.2.1, fun y hy => hA.out.2.2.1 y (by simp [hy]), HE.out.1, by have := hA.out.2.2.2.2.1; simp at this; omega, by have := hA.out.2.2.2.2.2.1; have := HE.out.2.2.2.1; have := HE.out.2.2.2.2.1; have := HE.out.2.2.2.2.2.1; simp; omega, by have := hA.out.2.2.2.2.2.2.1; have := HE.out.2.2.2.2.1; omega, fun k p hk => by
              unfold updR at hk
              split at hk
              · injection hk with hk; have := HE.out.2.2.2.2.2.2; omega
              · exact hA.out.2.2.2.2.2.2.2 k p hk⟩, (by
            have h1 := H3.out.1
            rw [HE.out.2.1, ← HE.out.2.2.2.2.2.1] at h1
            exact ⟨h1.1.keepK' H3.out.2.2.2, H3.out.2.2.1.congr (fR_upd _ _ _), h1.2.2⟩), ((hK.out.drewN _).trans (H3.out.2.1.mono fun i hi => .inl hi)).trans (H3.out.2.2.2.mono fun i hi => ⟨(H3.out.1.1.1 i (.inl hi)).1, fun e => H3.out.1.2.2 (e ▸ hi)⟩)⟩
        · have h16I : ¬ (lk.length : Int) < 16384 := by omega
          rw [if_neg h16] at hX
          have HE := Lib.hid (And.intro hX (And.intro hd1 (And.intro hd2 (And.intro hz1 (And.intro hz2 hm)))))
          clear hRx hf hX hx hlen hml hkey hlimS hB hz1 hz2 hd1 hd2 hm h16
          go_wp2_with (fail)
          go_quiet (fail)
          clear hwrap
          go_wp2_with (fail)
          with_reducible refine (HP.out _).mono ?_
          rintro e w3 ⟨rfl, hw3, hk3⟩
          have H3 := Lib.hid (And.intro hw3 hk3)
          clear hw3 hk3
          go_wp2_with (fail)
          go_roundg xs.length
          case measure => rw [hA.out.1]; simp
          case rel => exact ⟨S2, xs, _, Rk, ck, rfl, ⟨rfl, HE.out.2.2.1, fun y hy => hA.out.2.2.1 y (by simp [hy]), HE.out.1, by have := hA.out.2.2.2.2.1; simp at this; omega, by have := hA.out.2.2.2.2.2.1; have := HE.out.2.2.2.1; have := HE.out.2.2.2.2.1; have := HE.out.2.2.2.2.2; simp; omega, by have := hA.out.2.2.2.2.2.2.1; have := HE.out.2.2.2.2.1; omega, hA.out.2.2.2.2.2.2.2⟩, (by
            have := (hW.out.drewN _).turn H3.out.1 H3.out.2
            rw [HE.out.2.1, ← HE.out.2.2.2.2.2] at this
            exact this), (hK.out.drewN _).trans (H3.out.2.mono fun i hi => .inl hi)⟩
end Go.Proofs.Ytgfpnkakglgokaa
