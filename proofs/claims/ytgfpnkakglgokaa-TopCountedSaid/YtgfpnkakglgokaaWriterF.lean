/- The bytes of a number, the highest first; plain, no program in sight. Conditions: none. The walks of package pack's Writer: New, piece, Raw, Num, Out. The walk of package pack's Writer's Num. A writer with room: what Raw and Num do. -/
import Derived.Test.YtgfpnkakglgokaaRet
import Derived.Test.YtgfpnkakglgokaaSl
import Derived.Test.YtgfpnkakglgokaaChecked
import Derived.Laws.BytesString
import Derived.Laws.IdiomStrings
import Derived.OwnWalk
import Derived.Deep.LoopGhost
import Derived.Deep.Light
import Derived.Deep.QuietTactic
import Derived.BigQuiet
import Derived.Outline
namespace Go.Proofs.Ytgfpnkakglgokaa

/-- Byte i of eight, the highest first. -/
def bigI (n i : Nat) : UInt8 := UInt8.ofNat (n / 256 ^ (7 - i) % 256)
/-- The lowest k bytes of a number, the highest first. -/
def bigB (n k : Nat) : List UInt8 := (List.range k).map fun i => bigI n (8 - k + i)
theorem bigB_length (n k : Nat) : (bigB n k).length = k := by simp [bigB]
theorem bigI_toNat (n i : Nat) : (bigI n i).toNat = n / 256 ^ (7 - i) % 256 := by unfold bigI; rw [UInt8.toNat_ofNat']; omega
theorem bigB_get {n k j : Nat} (h : j < k) : (bigB n k)[j]? = some (bigI n (8 - k + j)) := by
  unfold bigB; rw [List.getElem?_map, List.getElem?_range h]; rfl
/-- Eight cells, the first k of which hold the bytes. -/
def bigC (n k : Nat) : Array Value := Array.ofFn fun i : Fin 8 => if i.val < k then b8 (bigI n i.val) else .int .u8 0
theorem bigC_set (n k : Nat) : (bigC n k).setIfInBounds k (b8 (bigI n k)) = bigC n (k + 1) := by
  unfold bigC
  apply Array.ext
  · simp
  · intro i h1 h2
    simp only [Array.size_setIfInBounds, Array.size_ofFn] at h1 h2
    rw [Array.getElem_setIfInBounds (by simpa using h1)]
    simp only [Array.getElem_ofFn]
    by_cases h : k = i
    · subst h; simp
    · rw [if_neg h]
      by_cases h3 : i < k
      · rw [if_pos h3, if_pos (by omega)]
      · rw [if_neg h3, if_neg (by omega)]
theorem bigC_zero (n : Nat) : bigC n 0 = #[.int .u8 0, .int .u8 0, .int .u8 0, .int .u8 0, .int .u8 0, .int .u8 0, .int .u8 0, .int .u8 0] := by
  unfold bigC; rfl
theorem big_pow (k : Nat) : (256 : Nat) ^ k = 2 ^ (8 * k) := by rw [Nat.pow_mul]
theorem big_byte (n k : Nat) (hk : k < 8) : ((n : Int) / 2 ^ (56 - 8 * k)) % 256 = ((bigI n k).toNat : Int) := by
  rw [bigI_toNat, big_pow, Int.natCast_emod, Int.natCast_ediv, Int.natCast_pow]
  have : 8 * (7 - k) = 56 - 8 * k := by omega
  rw [this]; rfl
end Go.Proofs.Ytgfpnkakglgokaa

namespace Go.Proofs.Ytgfpnkakglgokaa
open Go.RowKit

/-- A writer at block b: its limit, whether it is full, its map, its bytes; what is named in K lies apart. -/
def Wr (K : Nat → Prop) (w : World) (b : Nat) (lim : Int) (full : Bool) (m : Value) (l : List UInt8) : Prop :=
  (∀ i, K i → i < w.heap.size ∧ i ≠ b) ∧ ∃ v, Blk w b 122 #[v, .int .i64 lim, .bool full, m] ∧ Sl w 1 v l.length (l.map b8) ∧ ∀ g, v.ownBlock = some g → g ≠ b ∧ ¬ K g
section
variable {K K' : Nat → Prop} {w w' w1 : World} {b : Nat} {lim : Int} {full : Bool} {m : Value} {l : List UInt8}
theorem Wr.mono (h : Wr K w b lim full m l) (hk : ∀ i, K' i → K i) : Wr K' w b lim full m l := by
  obtain ⟨h1, v, h2, h3, h4⟩ := h
  exact ⟨fun i hi => h1 i (hk i hi), v, h2, h3, fun g hg => ⟨(h4 g hg).1, fun hK => (h4 g hg).2 (hk g hK)⟩⟩
theorem Wr.alloc (h : Wr K w b lim full m l) (o : Obj) : Wr (fun i => K i ∨ i = w.heap.size) (w.alloc o) b lim full m l := by
  obtain ⟨h1, v, h2, h3, h4⟩ := h
  refine ⟨fun i hi => ?_, v, h2.alloc o, h3.alloc o, fun g hg => ⟨(h4 g hg).1, ?_⟩⟩
  · rcases hi with hi | rfl
    · have := h1 i hi; simp; omega
    · have := h2.lt; simp; omega
  · rintro (hK | rfl)
    · exact (h4 _ hg).2 hK
    · have := h3.lt _ hg; omega
theorem Wr.drewN (h : Wr K w b lim full m l) (n : Nat) : Wr K (w.drewN n) b lim full m l := h
theorem Wr.lt (h : Wr K w b lim full m l) : b < w.heap.size := by obtain ⟨_, _, h, _⟩ := h; exact h.lt
/-- A store into a block that is named. -/
theorem Wr.set_ (h : Wr K w b lim full m l) {p : Addr} (hp : K p.block) (u : Value) : Wr K (w.setCell p u) b lim full m l := by
  obtain ⟨h1, v, h2, h3, h4⟩ := h
  refine ⟨fun i hi => by have := h1 i hi; simpa [World.setCell] using this, v, h2.far (fun e => (h1 _ hp).2 e.symm) u, h3.far (fun g hg e => (h4 g hg).2 (e ▸ hp)) u, h4⟩
theorem Wr.keepK (h : Wr K w b lim full m l) (hk : KeepK K' w w') (hb : K' b) (hg : ∀ g, ¬ K g → g < w.heap.size → K' g) : Wr K w' b lim full m l := by
  obtain ⟨h1, v, h2, h3, h4⟩ := h
  exact ⟨fun i hi => ⟨Nat.lt_of_lt_of_le (h1 i hi).1 hk.size, (h1 i hi).2⟩, v, h2.keepK hk hb, h3.keepK hk (fun g e => hg g (h4 g e).2 (h3.lt g e)), h4⟩
theorem Wr.below (h : Wr K w b lim full m l) (hk : Below w.heap.size w w') : Wr K w' b lim full m l :=
  h.keepK (.of_below (K := fun i => i < w.heap.size) hk (fun _ h => h)) h.lt (fun _ _ h => h)
/-- Behind an append and the store of its result. -/
theorem Wr.put {l' : List UInt8} {v v' : Value} (hK : ∀ i, K i → i < w.heap.size ∧ i ≠ b) (hB : Blk w b 122 #[v, .int .i64 lim, .bool full, m]) (hv : ∀ g, v.ownBlock = some g → g ≠ b ∧ ¬ K g)
    (hg : w.grownBy w1 v.ownBlock) (hs : Sl w1 1 v' l'.length (l'.map b8)) (hv' : v'.ownBlock = v.ownBlock ∨ v'.ownBlock = some w.heap.size) :
    Wr K (w1.setCell ⟨b, 0, none⟩ v') b lim full m l' ∧ KeepK K w (w1.setCell ⟨b, 0, none⟩ v') := by
  have hbl := hB.lt
  have hown : ∀ g, v'.ownBlock = some g → g ≠ b ∧ ¬ K g := by
    intro g hgg
    rcases hv' with h | h
    · exact hv g (h.symm.trans hgg)
    · have : w.heap.size = g := by rw [hgg] at h; exact (Option.some.inj h).symm
      subst this
      exact ⟨by omega, fun hk => by have := (hK _ hk).1; omega⟩
  have hB1 := hB.grown hg (fun e => (hv b e.symm).1 rfl)
  have hsz := hg.size
  refine ⟨⟨fun i hi => ?_, v', hB1.set_ 0 v', hs.far (fun g e => (hown g e).1) v', hown⟩, ?_⟩
  · have := hK i hi
    simp [World.setCell]; omega
  · exact ((KeepK.refl K w).grown hg (fun i hi => (hK i hi).1) (fun i hi e => (hv i e.symm).2 hi)).setCell (fun i hi => (hK i hi).2) _
theorem Wr.fill (h : Wr K w b lim full m l) : Wr K (w.setCell ⟨b, 2, none⟩ (.bool true)) b lim true m l ∧ KeepK K w (w.setCell ⟨b, 2, none⟩ (.bool true)) := by
  obtain ⟨h1, v, h2, h3, h4⟩ := h
  refine ⟨⟨fun i hi => by have := h1 i hi; simpa [World.setCell] using this, v, h2.set_ 2 _, h3.far (fun g e => (h4 g e).1) _, h4⟩, ?_⟩
  exact (KeepK.refl K w).setCell (fun i hi => (h1 i hi).2) _
end

theorem info_u8' : (Try.prog.info? 5).map (fun i => (i.zero, i.size, i.bytes)) = some (some (.int .u8 0), 1, 1) := by kernel_rfl
theorem byteCells_b8 (s : ByteArray) : byteCells s = s.data.toList.map b8 := rfl

theorem wNew_any (lim : Int) (w : World) :
    Calls Try.prog 22 #[.int .i64 lim] w fun e w' => e = .returned (.pointer (some ⟨w.heap.size + 1, 0, none⟩)) ∧ Wr (fun i => i < w.heap.size) w' (w.heap.size + 1) lim false (.map (some w.heap.size)) [] ∧ Below w.heap.size w w' := by
  have hmm := @run_makeMap Try.prog
  go_enter Try.func22, Try.ntmps22
  go_wp2
  go_ret
  refine ⟨rfl, ⟨fun i hi => ⟨by simp; omega, by omega⟩, .slice none 0 0, ?_, Sl.nil _ _, fun g hg => by simp [Value.ownBlock] at hg⟩, ((Below.refl _ _).alloc (Nat.le_refl _) _).alloc (by simp) _⟩
  have := Blk.new (w.alloc (.map #[] 0)) 122 #[.slice none 0 0, .int .i64 lim, .bool false, .map (some w.heap.size)]
  rw [World.size_alloc] at this
  exact this

set_option maxRecDepth 100000 in
set_option maxHeartbeats 1000000 in
theorem piece_full {K : Nat → Prop} {w : World} {b : Nat} {lim : Int} {m : Value} {l : List UInt8} (s : ByteArray) (h : Wr K w b lim true m l) :
    Calls Try.prog 49 #[.pointer (some ⟨b, 0, none⟩), .string s] w fun e w' => e = .returned (.bool false) ∧ w = w' := by
  obtain ⟨h1, v, h2, h3, h4⟩ := h
  have c2 : w.cell? ⟨b, 2, none⟩ = some (.bool true) := h2.cell 2
  clear h1 h2 h3 h4
  go_enter Try.func49, Try.ntmps49
  go_wp2
  go_ret
  exact ⟨rfl, rfl⟩

set_option maxRecDepth 100000 in
set_option maxHeartbeats 1000000 in
theorem piece_long {K : Nat → Prop} {w : World} {b : Nat} {lim : Int} {m : Value} {l : List UInt8} (s : ByteArray) (h : Wr K w b lim false m l) (hs0 : 0 < s.size) (_hs : s.size ≤ maxLen) (hl : l.length ≤ maxLen) (hlim : 0 ≤ lim ∧ lim ≤ 9223372036854775807) (hlong : lim < l.length + s.size) :
    Calls Try.prog 49 #[.pointer (some ⟨b, 0, none⟩), .string s] w fun e w' => e = .returned (.bool false) ∧ Wr K w' b lim true m l ∧ KeepK K w w' := by
  have H := Lib.hid h
  obtain ⟨h1, v, h2, h3, h4⟩ := h
  obtain ⟨A, c, rfl, hc1, hc2⟩ := h3.shape
  have c0 : w.cell? ⟨b, 0, none⟩ = some (.slice A l.length c) := h2.cell 0
  have c1 : w.cell? ⟨b, 1, none⟩ = some (.int .i64 lim) := h2.cell 1
  have c2 : w.cell? ⟨b, 2, none⟩ = some (.bool false) := h2.cell 2
  have f2 := h2.frozen 2
  have d1 : decide (0 < s.size) = true := by simp; omega
  have d0 : 0 < s.size := hs0
  have e1 : IntKind.i64.wrap (lim - (l.length : Int)) = lim - (l.length : Int) := by unfold maxLen at hl; exact IntWalk.i64_in _ (by omega)
  have d2 : decide (lim - (l.length : Int) < (s.size : Int)) = true := by simp; omega
  clear h1 h2 h3 h4 hc1 hc2 hs0 _hs hl hlim hlong
  go_enter Try.func49, Try.ntmps49
  go_wp2
  go_quiet (fail)
  go_wp2
  go_ret
  exact ⟨rfl, (H.out.drewN _).fill.1, (KeepK.refl K w).drewN _ |>.trans (H.out.drewN _).fill.2⟩

set_option maxRecDepth 100000 in
set_option maxHeartbeats 1000000 in
theorem piece_fits {K : Nat → Prop} {w : World} {b : Nat} {lim : Int} {m : Value} {l : List UInt8} (s : ByteArray) (h : Wr K w b lim false m l) (hl : l.length + s.size ≤ 140737488355328) (hlim : 0 ≤ lim ∧ lim ≤ 9223372036854775807) (hfit : s.size = 0 ∨ (l.length + s.size : Int) ≤ lim) :
    Calls Try.prog 49 #[.pointer (some ⟨b, 0, none⟩), .string s] w fun e w' => e = .returned (.bool true) ∧ Wr K w' b lim false m (l ++ s.data.toList) ∧ KeepK K w w' := by
  obtain ⟨i0, hi, hz0, hz1, hz2⟩ := info_parts info_u8'
  obtain ⟨h1, v, h2, h3, h4⟩ := h
  obtain ⟨A, c, rfl, hc1, hc2⟩ := h3.shape
  have c0 : w.cell? ⟨b, 0, none⟩ = some (.slice A l.length c) := h2.cell 0
  have c1 : w.cell? ⟨b, 1, none⟩ = some (.int .i64 lim) := h2.cell 1
  have c2 : w.cell? ⟨b, 2, none⟩ = some (.bool false) := h2.cell 2
  have f0 := h2.frozen 0
  have hb := h2.lt
  have HH := Lib.hid (And.intro h1 (And.intro h2 (And.intro h3 h4)))
  have e1 : IntKind.i64.wrap (lim - (l.length : Int)) = lim - (l.length : Int) := IntWalk.i64_in _ (by omega)
  have hd : decide (0 < s.size) = false ∨ (decide (0 < s.size) = true ∧ decide (lim - (l.length : Int) < (s.size : Int)) = false) := by
    rcases hfit with h | h
    · left; simp [h]
    · by_cases h0 : s.size = 0
      · left; simp [h0]
      · right; simp; omega
  have HL := Lib.hid hl
  clear hfit h1 h2 h4 hc1 hc2 hl hlim
  rcases hd with d1 | ⟨d1, d2⟩
  all_goals
    go_enter Try.func49, Try.ntmps49
    go_wp2
    go_quiet (fail)
    go_wp2_with (at_builtin; refine wpList_append_sl _ rfl (.tmp 38) (.tmp 39) 120 9 rfl 5 i0 (.int .u8 0) 1 1 Try.underlying120 hi hz0 hz1 hz2 rfl _ l.length (l.map b8) rfl (h3.drewN _) (.string s) rfl s.size (byteCells s) (Src.ofString _ Try.underlying9 s) (by have := HL.out; unfold maxLen; omega) (by have := HL.out; omega) ?_; intro v' w1 hs' hg' hv'; obtain ⟨A', c', rfl, _, _⟩ := hs'.shape; have hsz := hg'.size; have k0 := hg'.block b hb (fun e => (HH.out.2.2.2 b e.symm).1 rfl); have f0' : w1.frozen? ⟨b, 0, none⟩ = false := (World.frozen?_of_block (a := ⟨b, 0, none⟩) k0).trans f0; have c0' : w1.cell? ⟨b, 0, none⟩ = some (.slice A l.length c) := (World.cell?_of_block (a := ⟨b, 0, none⟩) k0).trans c0)
    go_ret
    have hp := Wr.put (K := K) (w := w.drewN _) (l' := l ++ s.data.toList) (fun i hi => HH.out.1 i hi) (HH.out.2.1.drewN _) HH.out.2.2.2 hg' (by
      rw [byteCells_b8, ← List.map_append] at hs'
      rw [List.length_append, show s.data.toList.length = s.size by simp]
      exact hs') hv'
    exact ⟨rfl, hp.1, ((KeepK.refl K w).drewN _).trans hp.2⟩

/-- Its state behind a piece. -/
def wput (lim : Int) (full : Bool) (l s : List UInt8) : Bool × List UInt8 := if full = true then (true, l) else if s.length = 0 ∨ (l.length + s.length : Int) ≤ lim then (false, l ++ s) else (true, l)
def PiecePost (K : Nat → Prop) (b : Nat) (lim : Int) (m : Value) (x : Bool × List UInt8) (w : World) (e : Ending) (w' : World) : Prop :=
  e = .returned (.bool (!x.1)) ∧ Wr K w' b lim x.1 m x.2 ∧ KeepK K w w'
theorem piece_any {K : Nat → Prop} {w : World} {b : Nat} {lim : Int} {full : Bool} {m : Value} {l : List UInt8} (s : ByteArray) (h : Wr K w b lim full m l) (hl : l.length + s.size ≤ 140737488355328) (hlim : 0 ≤ lim ∧ lim ≤ 9223372036854775807) :
    Calls Try.prog 49 #[.pointer (some ⟨b, 0, none⟩), .string s] w (PiecePost K b lim m (wput lim full l s.data.toList) w) := by
  have hsz : s.data.toList.length = s.size := by simp
  unfold wput PiecePost
  rw [hsz]
  cases full with
  | true =>
    rw [if_pos rfl]
    exact (piece_full s h).mono fun e w' ⟨he, hw⟩ => ⟨he, hw ▸ h, hw ▸ KeepK.refl K w⟩
  | false =>
    rw [if_neg (by simp)]
    by_cases hf : s.size = 0 ∨ (l.length + s.size : Int) ≤ lim
    · rw [if_pos hf]
      exact piece_fits s h hl hlim hf
    · rw [if_neg hf]
      have h1 : 0 < s.size := by omega
      have h2 : lim < (l.length : Int) + s.size := by omega
      have h3 : l.length ≤ maxLen := by unfold maxLen; omega
      have h4 : s.size ≤ maxLen := by unfold maxLen; omega
      exact piece_long s h h1 h4 h3 hlim h2

set_option maxRecDepth 100000 in
theorem wRaw_any {K : Nat → Prop} {w : World} {b : Nat} {lim : Int} {full : Bool} {m : Value} {l : List UInt8} (s : ByteArray) (h : Wr K w b lim full m l) (hl : l.length + s.size ≤ 140737488355328) (hlim : 0 ≤ lim ∧ lim ≤ 9223372036854775807) :
    Calls Try.prog 65 #[.pointer (some ⟨b, 0, none⟩), .string s] w fun e w' => e = .returned (.tuple #[]) ∧ Wr K w' b lim (wput lim full l s.data.toList).1 m (wput lim full l s.data.toList).2 ∧ KeepK K w w' := by
  have H := Lib.hid (piece_any s h hl hlim)
  clear h hl hlim
  generalize wput lim full l s.data.toList = x at H ⊢
  go_enter Try.func65, Try.ntmps65
  go_wp2_with (fail)
  refine H.out.mono ?_
  rintro e w1 ⟨rfl, h1, h2⟩
  have H1 := Lib.hid (And.intro h1 h2)
  clear h1 h2
  go_wp2_with (fail)
  refine bodyPost_end (results_none rfl _ _ _) rfl ?_
  exact ⟨rfl, H1.out.1, H1.out.2⟩

set_option maxRecDepth 100000 in
theorem wOut_full {K : Nat → Prop} {w : World} {b : Nat} {lim : Int} {m : Value} {l : List UInt8} (h : Wr K w b lim true m l) :
    Calls Try.prog 27 #[.pointer (some ⟨b, 0, none⟩)] w fun e w' => e = .returned (.tuple #[.string ⟨#[]⟩, .int .i64 7]) ∧ w = w' := by
  obtain ⟨h1, v, h2, h3, h4⟩ := h
  have c2 : w.cell? ⟨b, 2, none⟩ = some (.bool true) := h2.cell 2
  clear h1 h2 h3 h4
  go_enter Try.func27, Try.ntmps27
  go_wp2
  go_ret2
  exact ⟨rfl, rfl⟩

theorem run_bytes_nil (P : Program) (w : World) {src dst e : TypeId} (c : Nat) (hs : P.underlying src = some (.slice e)) (he : P.underlying e = some (.int .u8)) (hd : P.underlying dst = some .string) :
    (convert src dst (.slice none 0 c)).run P w = .ok (.string ⟨#[]⟩) w := by
  rw [run_convert_bytes_string w src dst e none 0 c hs he hd]
  simp [Conv.bytesToString]
  rfl

set_option maxRecDepth 100000 in
theorem wOut_any {K : Nat → Prop} {w : World} {b : Nat} {lim : Int} {m : Value} {l : List UInt8} (h : Wr K w b lim false m l) :
    Calls Try.prog 27 #[.pointer (some ⟨b, 0, none⟩)] w fun e w' => e = .returned (.tuple #[.string ⟨l.toArray⟩, .int .i64 0]) ∧ w = w' := by
  obtain ⟨h1, v, h2, h3, h4⟩ := h
  have c2 : w.cell? ⟨b, 2, none⟩ = some (.bool false) := h2.cell 2
  have hcv : ∃ A c, v = .slice A l.length c ∧ (convert 120 9 (.slice A l.length c)).run Try.prog w = .ok (.string ⟨l.toArray⟩) w := by
    rcases Nat.eq_zero_or_pos l.length with h0 | hp
    · obtain ⟨A, c, rfl, _, _⟩ := h3.shape
      refine ⟨A, c, rfl, ?_⟩
      have hl := List.eq_nil_of_length_eq_zero h0
      subst hl
      rcases h3.2 with ⟨hv, _⟩ | ⟨g, cap, hv, _⟩
      · injection hv with hA
        subst hA
        exact run_bytes_nil _ w c Try.underlying120 Try.underlying5 Try.underlying9
      · injection hv with hA
        subst hA
        exact run_convert_bytes_back w _ _ _ ⟨g, 0, none⟩ c [] Try.underlying120 Try.underlying5 Try.underlying9 (fun j hj => by simp at hj)
    · obtain ⟨g, cap, rfl, _, _, _, hc⟩ := h3.form hp
      refine ⟨_, _, rfl, ?_⟩
      refine run_convert_bytes_back w _ _ _ ⟨g, 0, none⟩ cap l Try.underlying120 Try.underlying5 Try.underlying9 (fun j hj => ?_)
      have : (⟨g, 0, none⟩ : Addr).add j = ⟨g, j, none⟩ := by unfold Addr.add; split <;> simp_all
      rw [this]
      exact hc j _ (by simp [b8, hj])
  obtain ⟨A, c, rfl, hcv⟩ := hcv
  have c0 : w.cell? ⟨b, 0, none⟩ = some (.slice A l.length c) := h2.cell 0
  clear h1 h2 h3 h4
  go_enter Try.func27, Try.ntmps27
  go_wp2
  go_ret2
  exact ⟨rfl, rfl⟩
end Go.Proofs.Ytgfpnkakglgokaa

namespace Go.Proofs.Ytgfpnkakglgokaa
open Go.RowKit

theorem wide_yes (k : Nat) (h : k = 1 ∨ k = 2 ∨ k = 4 ∨ k = 8) (w : World) : Calls Try.prog 48 #[.int .i64 (k : Int)] w fun e w' => e = .returned (.bool true) ∧ w = w' := by
  rcases h with rfl | rfl | rfl | rfl
  all_goals
    go_enter Try.func48, Try.ntmps48
    go_wp2
    go_ret
    exact ⟨rfl, rfl⟩

set_option maxRecDepth 100000 in
set_option maxHeartbeats 1000000 in
theorem wNum_any {K : Nat → Prop} {w : World} {b : Nat} {lim : Int} {full : Bool} {m : Value} {l : List UInt8} (k : Nat) (hk : k = 1 ∨ k = 2 ∨ k = 4 ∨ k = 8) (n : Nat) (_hn : n ≤ 18446744073709551615) (h : Wr K w b lim full m l) (hl : l.length + 8 ≤ 140737488355328) (hlim : 0 ≤ lim ∧ lim ≤ 9223372036854775807) :
    Calls Try.prog 23 #[.pointer (some ⟨b, 0, none⟩), .int .i64 (k : Int), .int .u64 (n : Int)] w fun e w' => e = .returned (.tuple #[]) ∧ Wr K w' b lim (wput lim full l (bigB n k)).1 m (wput lim full l (bigB n k)).2 ∧ KeepK K w w' := by
  have HW := Lib.hid (fun W => wide_yes k hk W)
  have HK := Lib.hid hk
  have hk8 : 1 ≤ k ∧ k ≤ 8 := by omega
  obtain ⟨hk1, hk2⟩ := hk8
  have H := Lib.hid h
  have HL := Lib.hid (And.intro hl hlim)
  have HK0 := Lib.hid (fun i hi => (h.1 i hi).1)
  clear hk h hl hlim
  go_enter Try.func23, Try.ntmps23
  go_wp2_with (fail)
  refine (HW.out _).mono ?_
  rintro e w' ⟨rfl, rfl⟩
  go_wp2_with (fail)
  go_loopg [7, 11] 8 (fun g c i wr => ∃ j : Nat, g + j = 8 ∧ i = .int .i64 (j : Int) ∧ Aside (Blk wr w.heap.size 124 (bigC n j)) ∧ Aside (Below w.heap.size w wr))
  case atStart => exact ⟨0, by omega, rfl, by rw [bigC_zero]; exact Blk.new w _ _, (Below.refl _ _).alloc (Nat.le_refl _) _⟩
  case round =>
    obtain ⟨j, hj, rfl, hB, hb⟩ := hrel
    by_cases hlt : j < 8
    · have hfr := hB.out.frozen j
      have hc2 : ∃ v, wr.cell? ⟨w.heap.size, j, none⟩ = some v := by
        rw [hB.out.cell j]
        exact ⟨_, Array.getElem?_eq_getElem (by simp [bigC]; exact hlt)⟩
      obtain ⟨v, hc⟩ := hc2
      go_wp2_with (fail)
      go_roundg (8 - (j + 1))
      case measure => omega
      case rel =>
        refine ⟨j + 1, by omega, by go_num, ?_, hb.out.setCell (Nat.le_refl _) _⟩
        have h1 := hB.out.set_ j (b8 (bigI n j))
        rw [bigC_set] at h1
        unfold b8 at h1
        rw [← big_byte n j hlt] at h1
        exact h1
    · obtain rfl : j = 8 := by omega
      have hcells : ∀ i, i < 8 → wr.cell? ⟨w.heap.size, i, none⟩ = some (b8 (bigI n i)) := by
        intro i hi
        rw [hB.out.cell i]
        simp [bigC, hi]
      have HC := Lib.hid hcells
      clear hcells
      have hcv : ∀ cap, (convert 120 9 (.slice (some ⟨w.heap.size, 8 - k, none⟩) k cap)).run Try.prog wr = .ok (.string ⟨(bigB n k).toArray⟩) wr := by
        intro cap
        have := run_convert_bytes_back (P := Try.prog) wr 120 9 5 ⟨w.heap.size, 8 - k, none⟩ cap (bigB n k) Try.underlying120 Try.underlying5 Try.underlying9 (fun j hj => by
          rw [bigB_length] at hj
          have ea : (⟨w.heap.size, 8 - k, none⟩ : Addr).add j = ⟨w.heap.size, 8 - k + j, none⟩ := by unfold Addr.add; split <;> simp_all
          rw [ea, HC.out _ (by omega)]
          have := List.getElem?_eq_getElem (l := bigB n k) (by rw [bigB_length]; exact hj)
          rw [bigB_get hj] at this
          rw [← Option.some.inj this]
          rfl)
        rw [bigB_length] at this
        exact this
      have hP := fun (W : World) (h : Wr K W b lim full m l) => piece_any ⟨(bigB n k).toArray⟩ h (by
        show l.length + (bigB n k).toArray.size ≤ _
        rw [List.size_toArray, bigB_length]
        have := HL.out.1
        omega) HL.out.2
      simp only at hP
      have HW1 := Lib.hid (H.out.below hb.out)
      have HP := Lib.hid (hP wr HW1.out)
      generalize hx : bigB n k = x at hcv HP ⊢
      have HB := Lib.hid hb.out
      have HX := Lib.hid hx
      clear hP hx hk1 hk2 hB hb H HL HC hlt hj
      rcases HK.out with rfl | rfl | rfl | rfl
      all_goals
        simp only [Nat.reduceSub] at hcv
        go_wp2_with (fail)
        refine HP.out.mono ?_
        rintro e w2 ⟨rfl, h1, h2⟩
        have H1 := Lib.hid (And.intro h1 h2)
        clear h1 h2
        go_wp2_with (fail)
        refine bodyPost_end (results_none rfl _ _ _) rfl ?_
        have hw1 := H1.out.1
        rw [← HX.out] at hw1
        refine ⟨rfl, hw1, (KeepK.of_below HB.out fun i hi => ?_).trans H1.out.2⟩
        exact (HW1.out.1 i hi).1 |> fun _ => HK0.out i hi
end Go.Proofs.Ytgfpnkakglgokaa

namespace Go.Proofs.Ytgfpnkakglgokaa
open Go.RowKit

theorem wput_fits {lim : Int} {l s : List UInt8} (h : (l.length + s.length : Int) ≤ lim) : wput lim false l s = (false, l ++ s) := by
  unfold wput; rw [if_neg (by simp), if_pos (.inr h)]
theorem raw_fits {K : Nat → Prop} {w : World} {b : Nat} {lim : Int} {m : Value} {l : List UInt8} (s : ByteArray) (h : Wr K w b lim false m l) (hfit : (l.length + s.size : Int) ≤ lim) (hlim : lim ≤ 140737488355328) :
    Calls Try.prog 65 #[.pointer (some ⟨b, 0, none⟩), .string s] w fun e w' => e = .returned (.tuple #[]) ∧ Wr K w' b lim false m (l ++ s.data.toList) ∧ KeepK K w w' := by
  have := wRaw_any s h (by omega) (by omega)
  rw [wput_fits (by simpa using hfit)] at this
  exact this
theorem num_fits {K : Nat → Prop} {w : World} {b : Nat} {lim : Int} {m : Value} {l : List UInt8} (k : Nat) (hk : k = 1 ∨ k = 2 ∨ k = 4 ∨ k = 8) (n : Nat) (hn : n ≤ 18446744073709551615) (h : Wr K w b lim false m l) (hfit : (l.length + k : Int) ≤ lim) (hlim : lim ≤ 140737488355000) :
    Calls Try.prog 23 #[.pointer (some ⟨b, 0, none⟩), .int .i64 (k : Int), .int .u64 (n : Int)] w fun e w' => e = .returned (.tuple #[]) ∧ Wr K w' b lim false m (l ++ bigB n k) ∧ KeepK K w w' := by
  have := wNum_any k hk n hn h (by omega) (by omega)
  rw [wput_fits (by rw [bigB_length]; exact hfit)] at this
  exact this
end Go.Proofs.Ytgfpnkakglgokaa
