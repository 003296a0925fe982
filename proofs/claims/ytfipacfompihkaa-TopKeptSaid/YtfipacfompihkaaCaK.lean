/- The cache as a whole: what it knows, by places; the walks of New, use and drop. Conditions: none. The walks of the cache's New, and of what it is seen from outside. Conditions: none. What holding a thing comes to, in plain words: the link is in the ring, and in the map. Conditions: none. -/
import Derived.Test.YtfipacfompihkaaCaC
import Derived.Deep.RegionWith
namespace Go.Proofs.Ytfipacfompihkaa
open Go.RowKit Go.Lib

/-- A known link: whose place it is, and that its thing lies well, apart from all links and the map. -/
structure Kn (w : World) (mb rb : Nat) (L : Nat → Prop) (x : Lk) (b : Nat) (s : Bs) (k : Int) : Prop where
  lb : L b
  nr : b ≠ rb
  pn : x.pn.data.toList = s
  pk : x.pk = k
  sl : s.length ≤ maxLen
  kk : 0 ≤ k ∧ k ≤ 65535
  ok : x.h.ok
  ta : STab w x.h.A x.h.xs
  ap : ∀ a, x.h.A = some a → ¬ L a.block ∧ a.block ≠ mb ∧ a.block < w.heap.size
structure Ca (w : World) (g mb rb room n : Nat) (L : Nat → Prop) (T : Nat → Lk) (F : Bs → Int → Option Nat) : Prop where
  bx : Blk w g 114 #[.int .i64 (room : Int), .pointer (at_ rb), .map (some mb)]
  rg : Ring w L T
  lr : L rb
  mp : ∃ G : Lit → Option Value, MapV Try.prog 116 w mb n G ∧ ∀ (s : Bs) (k : Int), s.length ≤ maxLen → (0 ≤ k ∧ k ≤ 65535) → G (plK s k) = (F s k).map fun b => .pointer (at_ b)
  kn : ∀ s k b, F s k = some b → Kn w mb rb L (T b) b s k
  ne : g ≠ mb ∧ ¬ L g ∧ ¬ L mb
section
variable {w w' : World} {g mb rb room n : Nat} {L : Nat → Prop} {T : Nat → Lk} {F : Bs → Int → Option Nat}
theorem Kn.low {x : Lk} {b : Nat} {s : Bs} {k : Int} (h : Kn w mb rb L x b s k) (hb : Below w.heap.size w w') : Kn w' mb rb L x b s k :=
  ⟨h.lb, h.nr, h.pn, h.pk, h.sl, h.kk, h.ok, h.ta.below hb, fun a ha => ⟨(h.ap a ha).1, (h.ap a ha).2.1, Nat.lt_of_lt_of_le (h.ap a ha).2.2 hb.size⟩⟩
theorem Kn.keepK {x : Lk} {b : Nat} {s : Bs} {k : Int} (h : Kn w mb rb L x b s k) (hk : KeepK (fun i => i < w.heap.size ∧ ¬ L i ∧ i ≠ mb) w w') : Kn w' mb rb L x b s k :=
  ⟨h.lb, h.nr, h.pn, h.pk, h.sl, h.kk, h.ok, h.ta.keep hk.size fun _ a ha => hk.block a.block ⟨(h.ap a ha).2.2, (h.ap a ha).1, (h.ap a ha).2.1⟩, fun a ha => ⟨(h.ap a ha).1, (h.ap a ha).2.1, Nat.lt_of_lt_of_le (h.ap a ha).2.2 hk.size⟩⟩
theorem Ca.low (h : Ca w g mb rb room n L T F) (hb : Below w.heap.size w w') : Ca w' g mb rb room n L T F := by
  obtain ⟨G, m1, m2⟩ := h.mp
  exact ⟨h.bx.below hb h.bx.lt, h.rg.low hb, h.lr, ⟨G, m1.below hb m1.lt, m2⟩, fun s k b hF => (h.kn s k b hF).low hb, h.ne⟩
theorem Ca.drewN (h : Ca w g mb rb room n L T F) (m : Nat) : Ca (w.drewN m) g mb rb room n L T F := h.low (below_drewN (Below.refl _ _) m)
/-- The ring turned, and nothing else. -/
theorem Ca.turned (h : Ca w g mb rb room n L T F) (hr : Ring w' L T) (hk : KeepK (fun i => i < w.heap.size ∧ ¬ L i) w w') : Ca w' g mb rb room n L T F := by
  obtain ⟨G, m1, m2⟩ := h.mp
  exact ⟨h.bx.keepK hk ⟨h.bx.lt, h.ne.2.1⟩, hr, h.lr, ⟨G, m1.keepK hk ⟨m1.lt, h.ne.2.2⟩, m2⟩, fun s k b hF => (h.kn s k b hF).keepK (hk.mono fun i hi => ⟨hi.1, hi.2.1⟩), h.ne⟩
theorem Ca.more (h : Ca w g mb rb room n L T F) {m : Nat} (hm : n ≤ m) : Ca w g mb rb room m L T F := by
  obtain ⟨G, m1, m2⟩ := h.mp
  exact ⟨h.bx, h.rg, h.lr, ⟨G, m1.mono hm, m2⟩, h.kn, h.ne⟩
theorem Ca.ring (h : Ca w g mb rb room n L T F) : w.cell? ⟨g, 1, none⟩ = some (.pointer (some ⟨rb, 0, none⟩)) := h.bx.cell 1
theorem Ca.map_ (h : Ca w g mb rb room n L T F) : w.cell? ⟨g, 2, none⟩ = some (.map (some mb)) := h.bx.cell 2
theorem Ca.mlt (h : Ca w g mb rb room n L T F) : mb < w.heap.size := by obtain ⟨G, m1, _⟩ := h.mp; exact m1.lt
end
set_option maxRecDepth 100000 in
theorem use_any {w : World} {g mb rb room n : Nat} {L : Nat → Prop} {T : Nat → Lk} {F : Bs → Int → Option Nat} (h : Ca w g mb rb room n L T F) {b : Nat} (hb : L b) (hr : b ≠ rb) :
    Calls Try.prog 53 #[.pointer (some ⟨g, 0, none⟩), .pointer (at_ b)] w fun e w' => e = .returned (.tuple #[]) ∧ Ca w' g mb rb room n L T F ∧ KeepK (fun i => i < w.heap.size ∧ ¬ L i) w w' := by
  have HC := Lib.hid (cut_lk h.rg hb)
  have H := Lib.hid (And.intro h (And.intro hb hr))
  clear h hb hr
  unfold at_ at HC ⊢
  go_enter Try.func53, Try.ntmps53
  go_wp2_with (fail)
  with_reducible refine HC.out.mono ?_
  rintro e w2 ⟨rfl, hr2, hk2⟩
  have h2 := H.out.1.turned hr2 hk2
  have H2 := Lib.hid (And.intro h2 hk2)
  have HI := Lib.hid (insert_old h2.rg h2.lr H.out.2.1 H.out.2.2)
  have c1 := h2.ring
  unfold at_ at HI
  clear h2 hr2 hk2 HC
  go_wp2_with (fail)
  with_reducible refine HI.out.mono ?_
  rintro e w3 ⟨rfl, hr3, hk3⟩
  have H3 := Lib.hid (And.intro (H2.out.1.turned hr3 hk3) (H2.out.2.trans (hk3.mono fun i hi => ⟨Nat.lt_of_lt_of_le hi.1 H2.out.2.size, hi.2⟩)))
  clear hr3 hk3
  go_wp2_with (fail)
  refine bodyPost_end (results_none rfl _ _ _) rfl ?_
  exact ⟨rfl, H3.out⟩
/-- What is known without one place. -/
def without (F : Bs → Int → Option Nat) (s : Bs) (k : Int) : Bs → Int → Option Nat := fun s' k' => if s' = s ∧ k' = k then none else F s' k'
set_option maxRecDepth 100000 in
set_option maxHeartbeats 2000000 in
theorem drop_any {w : World} {g mb rb room n : Nat} {L : Nat → Prop} {T : Nat → Lk} {F : Bs → Int → Option Nat} (h : Ca w g mb rb room n L T F) {s : Bs} {k : Int} {b : Nat} (hF : F s k = some b) :
    Calls Try.prog 75 #[.pointer (some ⟨g, 0, none⟩), .pointer (at_ b)] w fun e w' => e = .returned (.tuple #[]) ∧ Ca w' g mb rb room n L T (without F s k) ∧ KeepK (fun i => i < w.heap.size ∧ ¬ L i ∧ i ≠ mb) w w' := by
  have hK := h.kn s k b hF
  have HC := Lib.hid (cut_lk h.rg hK.lb)
  have H := Lib.hid (And.intro h hK)
  clear h hF hK
  unfold at_ at HC ⊢
  go_enter Try.func75, Try.ntmps75
  go_wp2_with (fail)
  with_reducible refine HC.out.mono ?_
  rintro e w2 ⟨rfl, hr2, hk2⟩
  have h2 := H.out.1.turned hr2 hk2
  have hK2 := H.out.2.keepK (hk2.mono fun i hi => ⟨hi.1, hi.2.1⟩)
  obtain ⟨u, v, _, _, hB⟩ := hr2.all b H.out.2.lb
  obtain ⟨G, m1, m2⟩ := h2.mp
  have hkey := keyOf_plc (T b).pn (T b).pk (by have := hK2.sl; rw [← hK2.pn] at this; simpa using this) (by rw [hK2.pk]; exact hK2.kk)
  have M2 : MapV Try.prog 116 w2.drew mb n G := m1.drewN 1
  obtain ⟨w9, hdel, hM9, hg9, _⟩ := M2.drop plc_keyed Try.underlying112 hkey (plK_isKey _ _) 0
  rw [hK2.pn, hK2.pk] at hM9
  have c8 : w2.cell? ⟨b, 8, none⟩ = some (.string (T b).pn) := Blk.cell hB 8
  have c9 : w2.cell? ⟨b, 9, none⟩ = some (.int .u16 (T b).pk) := Blk.cell hB 9
  have c2 := h2.map_
  have HX := Lib.hid (And.intro h2 (And.intro hk2 (And.intro hM9 (And.intro hg9 (And.intro m2 hK2)))))
  clear h2 hr2 hk2 HC hB m1 m2 M2 hkey hM9 hg9 hK2
  obtain ⟨PN, hPN⟩ : ∃ PN, (T b).pn = PN := ⟨_, rfl⟩
  obtain ⟨PK, hPK⟩ : ∃ PK, (T b).pk = PK := ⟨_, rfl⟩
  rw [hPN] at c8 hdel
  rw [hPK] at c9 hdel
  clear hPN hPK
  go_wp2_with (fail)
  first | (go_region_with (fail)) | (fail "no way")
  all_goals
    go_wp2_with (fail)
    refine bodyPost_end (results_none rfl _ _ _) rfl ?_
    obtain ⟨h2, hk2, hM9, hg9, m2, hK2⟩ := HX.out
    have hk9 : KeepK (fun i => i < w2.heap.size ∧ ¬ L i ∧ i ≠ mb) w2 w9 := (KeepK.refl _ w2).drew.grown hg9 (fun i hi => hi.1) (fun i hi e => hi.2.2 (by injection e))
    have hr9 : Ring w9 L T := (h2.rg.drew).grown hg9 (fun i hi e => h2.ne.2.2 (by injection e with e; exact e ▸ hi))
    refine ⟨rfl, ⟨(h2.bx.drew).grown hg9 (fun e => h2.ne.1 (by injection e)), hr9, h2.lr, ⟨_, hM9, fun s' k' hs' hk' => ?_⟩, fun s' k' b' hF' => ?_, h2.ne⟩, (hk2.mono fun i hi => ⟨hi.1, hi.2.1⟩).trans (hk9.mono fun i hi => ⟨Nat.lt_of_lt_of_le hi.1 hk2.size, hi.2.1, hi.2.2⟩)⟩
    · unfold without
      by_cases e : s' = s ∧ k' = k
      · obtain ⟨rfl, rfl⟩ := e
        rw [if_pos (WideAt.sameKey_self (plK_isKey _ _)), if_pos ⟨rfl, rfl⟩]
        rfl
      · rw [if_neg e, if_neg, m2 s' k' hs' hk']
        intro hs
        exact e (plK_inj hs' hK2.sl hk' hK2.kk (WideAt.sameKey_eq hs))
    · unfold without at hF'
      split at hF'
      · cases hF'
      · exact (h2.kn s' k' b' hF').keepK hk9
end Go.Proofs.Ytfipacfompihkaa

namespace Go.Proofs.Ytfipacfompihkaa
open Go.RowKit Go.Lib

/-- A thing as it is seen from outside. -/
structure En where
  n : ByteArray
  t : Int
  l : Int
  xs : List ByteArray
  rk : Int
  no : Bool
  nm : Bool
  un : Int
def Th.en (h : Th) : En := ⟨h.n, h.t, h.l, h.xs, h.rk, h.no, h.nm, h.un⟩
/-- A cache that holds V. -/
def CaV (w : World) (g mb room n : Nat) (L : Nat → Prop) (V : Bs → Int → Option En) : Prop :=
  ∃ rb T F, Ca w g mb rb room n L T F ∧ ∀ s k, V s k = (F s k).map fun b => (T b).h.en
section
variable {w w' : World} {g mb room n : Nat} {L : Nat → Prop} {V : Bs → Int → Option En}
theorem CaV.low (h : CaV w g mb room n L V) (hb : Below w.heap.size w w') : CaV w' g mb room n L V := by
  obtain ⟨rb, T, F, h1, h2⟩ := h
  exact ⟨rb, T, F, h1.low hb, h2⟩
theorem CaV.congr (h : CaV w g mb room n L V) {V' : Bs → Int → Option En} (he : ∀ s k, V' s k = V s k) : CaV w g mb room n L V' := by
  obtain ⟨rb, T, F, h1, h2⟩ := h
  exact ⟨rb, T, F, h1, fun s k => (he s k).trans (h2 s k)⟩
theorem CaV.lt (h : CaV w g mb room n L V) : g < w.heap.size ∧ mb < w.heap.size ∧ ∀ i, L i → i < w.heap.size := by
  obtain ⟨rb, T, F, h1, h2⟩ := h
  exact ⟨h1.bx.lt, h1.mlt, fun i hi => h1.rg.lt hi⟩
theorem CaV.more (h : CaV w g mb room n L V) {m : Nat} (hm : n ≤ m) : CaV w g mb room m L V := by
  obtain ⟨rb, T, F, h1, h2⟩ := h
  exact ⟨rb, T, F, h1.more hm, h2⟩
end
def NewP (room : Nat) (w : World) (e : Ending) (w' : World) : Prop :=
  ∃ g mb L, e = .returned (.tuple #[.pointer (some ⟨g, 0, none⟩), .int .i64 0]) ∧ CaV w' g mb room 0 L (fun _ _ => none) ∧ Below w.heap.size w w' ∧ w.heap.size ≤ g ∧ w.heap.size ≤ mb ∧ ∀ i, L i → w.heap.size ≤ i
def zeroLk : Lk := ⟨⟨⟨#[]⟩, 0, 0, none, [], 0, 0, false, false, 0⟩, ⟨#[]⟩, 0⟩
set_option maxRecDepth 100000 in
theorem empty_any (room : Nat) (w : World) :
    Calls Try.prog 40 #[.int .i64 (room : Int)] w fun e w' => ∃ g mb L, e = .returned (.pointer (some ⟨g, 0, none⟩)) ∧ CaV w' g mb room 0 L (fun _ _ => none) ∧ Below w.heap.size w w' ∧ w.heap.size ≤ g ∧ w.heap.size ≤ mb ∧ ∀ i, L i → w.heap.size ≤ i := by
  have hmm : ∀ W : World, (Instr.makeMap 112 none).run Try.prog W = .ok (.map (some W.heap.size)) (W.alloc (.map #[] 0)) := fun W => rfl
  go_enter Try.func40, Try.ntmps40
  go_wp2_with (fail)
  go_ret
  obtain ⟨W1, hW1⟩ : ∃ W1, w.alloc (.cells (zeroLk.cells (at_ w.heap.size) (at_ w.heap.size)) 122) = W1 := ⟨_, rfl⟩
  have z1 : W1.heap.size = w.heap.size + 1 := by rw [← hW1]; simp
  have b1 : Below w.heap.size w W1 := by rw [← hW1]; exact (Below.refl _ _).alloc (Nat.le_refl _) _
  have k1 : LkB W1 w.heap.size zeroLk (at_ w.heap.size) (at_ w.heap.size) := by rw [← hW1]; exact Blk.new _ _ _
  obtain ⟨W2, hW2⟩ : ∃ W2, W1.alloc (.map #[] 0) = W2 := ⟨_, rfl⟩
  have z2 : W2.heap.size = w.heap.size + 2 := by rw [← hW2, World.size_alloc, z1]
  have b2 : Below w.heap.size w W2 := by rw [← hW2]; exact b1.alloc (by omega) _
  have k2 : LkB W2 w.heap.size zeroLk (at_ w.heap.size) (at_ w.heap.size) := by rw [← hW2]; exact Blk.alloc k1 _
  have m2 : MapV Try.prog 116 W2 (w.heap.size + 1) 0 (fun _ => none) := by rw [← hW2, ← z1]; exact MapV.made W1 _ _
  obtain ⟨W3, hW3⟩ : ∃ W3, W2.alloc (.cells #[.int .i64 (room : Int), .pointer (some ⟨w.heap.size, 0, none⟩), .map (some (w.heap.size + 1))] 114) = W3 := ⟨_, rfl⟩
  have b3 : Below w.heap.size w W3 := by rw [← hW3]; exact b2.alloc (by omega) _
  have k3 : LkB W3 w.heap.size zeroLk (at_ w.heap.size) (at_ w.heap.size) := by rw [← hW3]; exact Blk.alloc k2 _
  have m3 : MapV Try.prog 116 W3 (w.heap.size + 1) 0 (fun _ => none) := by rw [← hW3]; exact m2.alloc _
  have g3 : Blk W3 (w.heap.size + 2) 114 #[.int .i64 (room : Int), .pointer (some ⟨w.heap.size, 0, none⟩), .map (some (w.heap.size + 1))] := by rw [← hW3, ← z2]; exact Blk.new _ _ _
  have hW : (((w.alloc (.cells #[.string ⟨#[]⟩, .int .u16 0, .int .u32 0, .slice none 0 0, .int .u8 0, .bool false, .bool false, .int .i64 0, .string ⟨#[]⟩, .int .u16 0, .pointer (some ⟨w.heap.size, 0, none⟩), .pointer (some ⟨w.heap.size, 0, none⟩)] 122)).alloc (.map #[] 0)).alloc (.cells #[.int .i64 (room : Int), .pointer (some ⟨w.heap.size, 0, none⟩), .map (some (w.heap.size + 1))] 114)) = W3 := by
    rw [← hW3, ← hW2, ← hW1]
    rfl
  rw [hW]
  refine ⟨w.heap.size + 2, w.heap.size + 1, (fun i => i = w.heap.size), rfl, ⟨w.heap.size, (fun _ => zeroLk), (fun _ _ => none), ⟨g3, ⟨fun b hb => ?_⟩, rfl, ⟨_, m3, fun _ _ _ _ => rfl⟩, (by intro _ _ _ h; cases h), ⟨by omega, by omega, by omega⟩⟩, fun _ _ => rfl⟩, b3, by omega, by omega, fun i hi => by omega⟩
  subst hb
  exact ⟨_, _, rfl, rfl, k3⟩
theorem newCa_any (room : Nat) (hr : 1 ≤ room ∧ room ≤ 4096) (w : World) :
    Calls Try.prog 15 #[.int .i64 (room : Int)] w (NewP room w) := by
  have HE := Lib.hid (fun W => empty_any room W)
  have h1 : ¬ (room : Int) < 1 := by omega
  have h2 : ¬ (4096 : Int) < (room : Int) := by omega
  clear hr
  go_enter Try.func15, Try.ntmps15
  go_wp2_with (fail)
  with_reducible refine (HE.out _).mono ?_
  rintro e w2 ⟨g, mb, L, rfl, hp⟩
  have H := Lib.hid hp
  clear hp
  go_wp2_with (fail)
  go_ret2
  exact ⟨g, mb, L, rfl, H.out⟩
/-- The length of what is known. -/
theorem MapV.len {P : Program} {k : TypeId} {w : World} {b n : Nat} {f : Lit → Option Value} (h : MapV P k w b n f) {t e : TypeId} (ht : P.underlying t = some (.map k e)) :
    ∃ m : Nat, m ≤ n ∧ ∀ (ty : TypeId) (W : World), W.heap[b]? = w.heap[b]? → (Builtin.len_ #[t] ty #[.map (some b)]).run P W = .ok (.int .i64 (m : Int)) W := by
  obtain ⟨D, h1, _⟩ := h
  refine ⟨_, h1.size_le, fun ty W hW => ?_⟩
  obtain ⟨es, clock, hb, F, hs, hD⟩ := h1
  exact World.ownsMap.len (R := rawR) (n := n) ⟨es, clock, hW.trans hb, F, hs, hD⟩ ht ty
end Go.Proofs.Ytfipacfompihkaa

namespace Go.Proofs.Ytfipacfompihkaa
open Go.RowKit Go.Lib

/-- What is known with one place more. -/
def withE (V : Bs → Int → Option En) (s : Bs) (k : Int) (x : En) : Bs → Int → Option En := fun s' k' => if s' = s ∧ k' = k then some x else V s' k'
/-- Whether what is known of a place keeps a thing of a rank out. -/
def keepsOut (o : Option En) (rk now : Int) : Bool := match o with
  | none => false
  | some y => decide (now < y.un) && decide (rk < y.rk)
/-- Whether a thing is held. -/
def holds (V : Bs → Int → Option En) (h : En) (ttl now : Int) : Bool := !(decide (ttl = 0)) && !(decide (now < 0)) && !(decide (4611686018427387904 < now)) && !(keepsOut (V (foldB h.n.data.toList) h.t) h.rk now)
def HoldP (w : World) (g mb room n : Nat) (L : Nat → Prop) (V : Bs → Int → Option En) (h : En) (ttl now : Int) (e : Ending) (w' : World) : Prop :=
  e = .returned (.bool (holds V h ttl now)) ∧ (∃ L', CaV w' g mb room (n + 1) L' (if holds V h ttl now = true then withE V (foldB h.n.data.toList) h.t { h with un := now + ttl } else V) ∧ ∀ i, L' i → L i ∨ w.heap.size ≤ i) ∧ KeepK (fun i => i < w.heap.size ∧ ¬ L i ∧ i ≠ mb) w w'
theorem CaV.stay {w w' : World} {g mb room n : Nat} {L : Nat → Prop} {V : Bs → Int → Option En} (h : CaV w g mb room n L V) {x : En} {ttl now : Int} (hx : holds V x ttl now = false) (hb : Below w.heap.size w w') : HoldP w g mb room n L V x ttl now (.returned (.bool false)) w' := by
  unfold HoldP
  generalize holds V x ttl now = y at hx ⊢
  subst hx
  exact ⟨rfl, ⟨L, (h.low hb).more (Nat.le_succ n), fun i hi => .inl hi⟩, KeepK.of_below hb fun i hi => hi.1⟩
/-- What stands when the link is in the ring, and in the map. -/
theorem hold_end {w W6 W8 w9 w10 : World} {g mb rb room n nb : Nat} {L : Nat → Prop} {T : Nat → Lk} {F F6 : Bs → Int → Option Nat} {V : Bs → Int → Option En} {G : Lit → Option Value} {N FN : ByteArray} {t l : Int} {A7 : Option Addr} {xs : List ByteArray} {c7 : Nat} {rk : Int} {no nm : Bool} {now ttl un : Int}
    (H1 : Ca w g mb rb room n L T F) (HV : ∀ s k, V s k = (F s k).map fun b => (T b).h.en) (hFN : FN.data.toList = foldB N.data.toList) (hN : N.size ≤ maxLen) (ht : 0 ≤ t ∧ t ≤ 65535) (hl : 0 ≤ l ∧ l ≤ 4294967295) (hx : xs.length ≤ 64) (hun : 0 ≤ now + ttl ∧ now + ttl ≤ 9223372036854775807)
    (hkw : KeepK (fun i => i < w.heap.size ∧ ¬ L i ∧ i ≠ mb) w W6) (b68 : Below W6.heap.size W6 W8) (hca : Ca W8 g mb rb room n L T F6) (hff : ∀ s' k', ¬ (s' = foldB N.data.toList ∧ k' = t) → F6 s' k' = F s' k')
    (hnb : W6.heap.size ≤ nb) (hS8 : Sl W8 1 (.slice A7 xs.length c7) xs.length (xs.map Value.string)) (hO : ∀ g', (Value.slice A7 xs.length c7).ownBlock = some g' → W6.heap.size ≤ g' ∧ g' < nb)
    (hr9 : Ring w9 (fun i => L i ∨ i = nb) (fun i => if i = nb then ⟨⟨N, t, l, A7, xs, c7, rk, no, nm, now + ttl⟩, FN, t⟩ else T i)) (hk9 : KeepK (fun i => i < W8.heap.size ∧ ¬ (L i ∨ i = nb)) W8 w9)
    (hG : ∀ (s : Bs) (k : Int), s.length ≤ maxLen → (0 ≤ k ∧ k ≤ 65535) → G (plK s k) = (F6 s k).map fun b => .pointer (at_ b))
    (hM : MapV Try.prog 116 w10 mb (n + 1) (fun x => if x.sameKey (plK (foldB N.data.toList) t) then some (.pointer (at_ nb)) else G x)) (hg10 : w9.drew.grownBy w10 (some mb)) :
    (∃ L', CaV w10 g mb room (n + 1) L' (withE V (foldB N.data.toList) t ⟨N, t, l, xs, rk, no, nm, now + ttl⟩) ∧ ∀ i, L' i → L i ∨ w.heap.size ≤ i) ∧ KeepK (fun i => i < w.heap.size ∧ ¬ L i ∧ i ≠ mb) w w10 := by
  have hSk : (foldB N.data.toList).length ≤ maxLen := by rw [foldB_length]; simpa using hN
  have hLw : ∀ i, L i → i < w.heap.size := fun i hi => H1.rg.lt hi
  have hz6 := hkw.size
  have hz8 := b68.size
  have hmw := H1.mlt
  have hgw := H1.bx.lt
  have hnL : ∀ b, L b → b ≠ nb := fun b hb e => by have := hLw b hb; omega
  have kn9 : ∀ i, i < W8.heap.size → ¬ L i → i ≠ nb → i ≠ mb → w10.heap[i]? = W8.heap[i]? := fun i hi h1 h2 h3 => (hg10.block i (Nat.lt_of_lt_of_le hi hk9.size) (fun e => h3 (by injection e))).trans (hk9.block i ⟨hi, fun h => h.elim h1 h2⟩)
  have z10 : W8.heap.size ≤ w10.heap.size := Nat.le_trans hk9.size hg10.size
  refine ⟨⟨fun i => L i ∨ i = nb, ⟨rb, (fun i => if i = nb then ⟨⟨N, t, l, A7, xs, c7, rk, no, nm, now + ttl⟩, FN, t⟩ else T i), fun s' k' => if s' = foldB N.data.toList ∧ k' = t then some nb else F6 s' k', ⟨?_, ?_, .inl hca.lr, ⟨_, hM, fun s' k' hs' hk' => ?_⟩, fun s' k' b hF' => ?_, ⟨hca.ne.1, ?_, ?_⟩⟩, fun s' k' => ?_⟩, fun i hi => hi.imp id fun e => by omega⟩, ?_⟩
  · exact (kn9 g hca.bx.lt hca.ne.2.1 (by omega) hca.ne.1).trans hca.bx
  · exact (hr9.drew).grown hg10 fun b hb e => by
      injection e with e
      rcases hb with hb | hb
      · exact hca.ne.2.2 (e ▸ hb)
      · omega
  · by_cases e : s' = foldB N.data.toList ∧ k' = t
    · obtain ⟨rfl, rfl⟩ := e
      rw [if_pos (WideAt.sameKey_self (plK_isKey _ _)), if_pos ⟨rfl, rfl⟩]
      rfl
    · rw [if_neg e, if_neg, hG s' k' hs' hk']
      intro hs
      exact e (plK_inj hs' hSk hk' ht (WideAt.sameKey_eq hs))
  · by_cases e : s' = foldB N.data.toList ∧ k' = t
    · rw [if_pos e] at hF'
      injection hF' with hF'
      subst hF'
      obtain ⟨rfl, rfl⟩ := e
      simp only [if_true]
      have hA7 : ∀ a, A7 = some a → W6.heap.size ≤ a.block ∧ a.block < nb := fun a ha => hO a.block (by
        rcases hS8.2 with ⟨h1, _⟩ | ⟨g', cap, h1, _⟩
        · injection h1 with h1; rw [ha] at h1; cases h1
        · injection h1 with h1; rw [ha] at h1; injection h1 with h1; rw [ha, h1]; rfl)
      have hA8 : ∀ a, A7 = some a → a.block < W8.heap.size := fun a ha => hS8.lt a.block (by
        rcases hS8.2 with ⟨h1, _⟩ | ⟨g', cap, h1, _⟩
        · injection h1 with h1; rw [ha] at h1; cases h1
        · injection h1 with h1; rw [ha] at h1; injection h1 with h1; rw [ha, h1]; rfl)
      have nl : ∀ i, W6.heap.size ≤ i → ¬ L i := fun i hi h => by have := hLw i h; omega
      refine ⟨.inr rfl, fun e => hnL rb hca.lr e.symm, hFN, rfl, hSk, ht, ⟨hN, ht, hl, hx, hun⟩, (stab_of_sl hS8).keep z10 fun _ a ha => kn9 a.block (hA8 a ha) (nl _ (hA7 a ha).1) (by have := (hA7 a ha).2; omega) (by have := (hA7 a ha).1; omega), fun a ha => ⟨fun h => h.elim (nl _ (hA7 a ha).1) (by have := (hA7 a ha).2; omega), by have := (hA7 a ha).1; omega, Nat.lt_of_lt_of_le (hA8 a ha) z10⟩⟩
    · rw [if_neg e] at hF'
      have hK := hca.kn s' k' b hF'
      have hbn : b ≠ nb := hnL b hK.lb
      simp only [if_neg hbn]
      have hold : ∀ a, (T b).h.A = some a → a.block < w.heap.size := fun a ha => by
        have := hff s' k' e
        rw [this] at hF'
        exact ((H1.kn s' k' b hF').ap a ha).2.2
      refine ⟨.inl hK.lb, hK.nr, hK.pn, hK.pk, hK.sl, hK.kk, hK.ok, hK.ta.keep z10 fun _ a ha => kn9 a.block (hK.ap a ha).2.2 (hK.ap a ha).1 (by have := hold a ha; omega) (hK.ap a ha).2.1, fun a ha => ⟨fun h => h.elim (hK.ap a ha).1 (by have := hold a ha; omega), (hK.ap a ha).2.1, Nat.lt_of_lt_of_le (hK.ap a ha).2.2 z10⟩⟩
  · rintro (h | h)
    · exact hca.ne.2.1 h
    · omega
  · rintro (h | h)
    · exact hca.ne.2.2 h
    · omega
  · unfold withE
    dsimp only
    by_cases e : s' = foldB N.data.toList ∧ k' = t
    · rw [if_pos e, if_pos e]
      simp [Th.en]
    · rw [if_neg e, if_neg e, HV, hff s' k' e]
      cases hF' : F s' k' with
      | none => rfl
      | some b =>
        have hbn : b ≠ nb := hnL b (H1.kn s' k' b hF').lb
        simp [hbn]
  · refine (hkw.trans (KeepK.of_below b68 fun i hi => by have := hi.1; omega)).trans ⟨?_, ?_, ?_, z10, fun i hi => kn9 i (by have := hi.1; omega) hi.2.1 (by have := hi.1; omega) hi.2.2⟩
    · exact hg10.os.trans hk9.os
    · exact hg10.tape.trans hk9.tape
    · exact hg10.output.trans hk9.output
end Go.Proofs.Ytfipacfompihkaa
