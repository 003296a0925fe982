/- The cache's links in memory: a ring that is known only as closed under its pointers. Conditions: none. -/
import Derived.Test.YtfipacfompihkaaMapR
import Derived.Test.YtfipacfompihkaaTTab
import Derived.Test.YtfipacfompihkaaNamesP
import Derived.Deep.QuietTactic
import Derived.BigQuiet
import Derived.BigRegion
import Derived.Deep.DeepMust
namespace Go.Proofs.Ytfipacfompihkaa
open Go.RowKit Go.Lib

/-- A thing: a set (name, type, TTL, data), its rank, whether there is none, of the name at all, until when. -/
structure Th where
  n : ByteArray
  t : Int
  l : Int
  A : Option Addr
  xs : List ByteArray
  c : Nat
  rk : Int
  no : Bool
  nm : Bool
  un : Int
def Th.data (h : Th) : Value := .slice h.A h.xs.length h.c
def Th.set_ (h : Th) : Value := .agg #[.string h.n, .int .u16 h.t, .int .u32 h.l, .slice h.A h.xs.length h.c]
def Th.found (h : Th) : Value := .agg #[.string h.n, .int .u16 h.t, .int .u32 h.l, .slice h.A h.xs.length h.c, .int .u8 h.rk, .bool h.no, .bool h.nm]
def Th.val (h : Th) : Value := .agg #[.string h.n, .int .u16 h.t, .int .u32 h.l, .slice h.A h.xs.length h.c, .int .u8 h.rk, .bool h.no, .bool h.nm, .int .i64 h.un]
/-- A link's own: its thing and its place. -/
structure Lk where
  h : Th
  pn : ByteArray
  pk : Int
def Lk.cells (x : Lk) (p q : Option Addr) : Array Value :=
  #[.string x.h.n, .int .u16 x.h.t, .int .u32 x.h.l, .slice x.h.A x.h.xs.length x.h.c, .int .u8 x.h.rk, .bool x.h.no, .bool x.h.nm, .int .i64 x.h.un, .string x.pn, .int .u16 x.pk, .pointer p, .pointer q]
def LkB (w : World) (b : Nat) (x : Lk) (p q : Option Addr) : Prop := Blk w b 122 (x.cells p q)
def at_ (b : Nat) : Option Addr := some ⟨b, 0, none⟩
/-- The links L, which hold T: each one's pointers lead to links. -/
structure Ring (w : World) (L : Nat → Prop) (T : Nat → Lk) : Prop where
  all : ∀ b, L b → ∃ u v, L u ∧ L v ∧ LkB w b (T b) (at_ u) (at_ v)
section
variable {w w' : World} {L : Nat → Prop} {T : Nat → Lk}
theorem Ring.lt (h : Ring w L T) {b : Nat} (hb : L b) : b < w.heap.size := by
  obtain ⟨u, v, _, _, hB⟩ := h.all b hb
  exact Blk.lt hB
theorem Ring.keep (h : Ring w L T) (hk : ∀ b, L b → w'.heap[b]? = w.heap[b]?) : Ring w' L T :=
  ⟨fun b hb => by
    obtain ⟨u, v, hu, hv, hB⟩ := h.all b hb
    exact ⟨u, v, hu, hv, (hk b hb).trans hB⟩⟩
theorem Ring.below {B : Nat} (h : Ring w L T) (hb : Below B w w') (hB : ∀ b, L b → b < B) : Ring w' L T := h.keep fun b hl => hb.block b (hB b hl)
theorem Ring.low (h : Ring w L T) (hb : Below w.heap.size w w') : Ring w' L T := h.below hb fun _ hl => h.lt hl
theorem Ring.drewN (h : Ring w L T) (n : Nat) : Ring (w.drewN n) L T := ⟨h.all⟩
theorem Ring.drew (h : Ring w L T) : Ring w.drew L T := ⟨h.all⟩
theorem Ring.alloc (h : Ring w L T) (o : Obj) : Ring (w.alloc o) L T := h.keep fun b hb => Below.heap_alloc w o b (h.lt hb)
theorem Ring.far (h : Ring w L T) {p : Addr} (hp : ¬ L p.block) (u : Value) : Ring (w.setCell p u) L T := h.keep fun b hb => Below.heap_setCell w p u b (fun e => hp (e ▸ hb))
theorem Ring.grown {row : Option Nat} (h : Ring w L T) (hg : w.grownBy w' row) (hr : ∀ b, L b → some b ≠ row) : Ring w' L T := h.keep fun b hb => hg.block b (h.lt hb) (hr b hb)
theorem LkB.before {b : Nat} {x : Lk} {p q : Option Addr} (h : LkB w b x p q) (r : Option Addr) : LkB (w.setCell ⟨b, 10, none⟩ (.pointer r)) b x r q := by
  have := Blk.set_ h 10 (.pointer r)
  simpa [LkB, Lk.cells] using this
theorem LkB.behind {b : Nat} {x : Lk} {p q : Option Addr} (h : LkB w b x p q) (r : Option Addr) : LkB (w.setCell ⟨b, 11, none⟩ (.pointer r)) b x p r := by
  have := Blk.set_ h 11 (.pointer r)
  simpa [LkB, Lk.cells] using this
theorem LkB.c10 {b : Nat} {x : Lk} {p q : Option Addr} (h : LkB w b x p q) : w.cell? ⟨b, 10, none⟩ = some (.pointer p) := Blk.cell h 10
theorem LkB.c11 {b : Nat} {x : Lk} {p q : Option Addr} (h : LkB w b x p q) : w.cell? ⟨b, 11, none⟩ = some (.pointer q) := Blk.cell h 11
theorem LkB.f10 {b : Nat} {x : Lk} {p q : Option Addr} (h : LkB w b x p q) : w.frozen? ⟨b, 10, none⟩ = false := Blk.frozen h 10
theorem LkB.f11 {b : Nat} {x : Lk} {p q : Option Addr} (h : LkB w b x p q) : w.frozen? ⟨b, 11, none⟩ = false := Blk.frozen h 11
theorem Ring.set10 (h : Ring w L T) {a b : Nat} (hb : L b) : Ring (w.setCell ⟨a, 10, none⟩ (.pointer (at_ b))) L T :=
  ⟨fun c hc => by
    obtain ⟨u, v, hu, hv, hB⟩ := h.all c hc
    by_cases e : c = a
    · subst e; exact ⟨b, v, hb, hv, hB.before _⟩
    · exact ⟨u, v, hu, hv, Blk.far hB (p := ⟨a, 10, none⟩) e _⟩⟩
theorem Ring.set11 (h : Ring w L T) {a b : Nat} (hb : L b) : Ring (w.setCell ⟨a, 11, none⟩ (.pointer (at_ b))) L T :=
  ⟨fun c hc => by
    obtain ⟨u, v, hu, hv, hB⟩ := h.all c hc
    by_cases e : c = a
    · subst e; exact ⟨u, b, hu, hb, hB.behind _⟩
    · exact ⟨u, v, hu, hv, Blk.far hB (p := ⟨a, 11, none⟩) e _⟩⟩
/-- A new link beside the others. -/
theorem Ring.more (h : Ring w L T) {b : Nat} {x : Lk} {u v : Nat} (hu : L u) (hv : L v) (hB : LkB w b x (at_ u) (at_ v)) (hn : ¬ L b) : Ring w (fun i => L i ∨ i = b) (fun i => if i = b then x else T i) :=
  ⟨fun c hc => by
    by_cases e : c = b
    · subst e; exact ⟨u, v, .inl hu, .inl hv, by simpa using hB⟩
    · obtain ⟨u, v, hu, hv, hB⟩ := h.all c (hc.resolve_right e)
      exact ⟨u, v, .inl hu, .inl hv, by simpa [e] using hB⟩⟩
end
set_option maxRecDepth 100000 in
theorem cut_lk {w : World} {L : Nat → Prop} {T : Nat → Lk} (h : Ring w L T) {b : Nat} (hb : L b) :
    Calls Try.prog 83 #[.pointer (at_ b)] w fun e w' => e = .returned (.tuple #[]) ∧ Ring w' L T ∧ KeepK (fun i => i < w.heap.size ∧ ¬ L i) w w' := by
  obtain ⟨u, v, hu, hv, hB⟩ := h.all b hb
  obtain ⟨u1, u2, hu1, hu2, hU⟩ := h.all u hu
  obtain ⟨v1, v2, hv1, hv2, hV⟩ := h.all v hv
  have H1 := Lib.hid (And.intro h (And.intro hu (And.intro hv hB)))
  have c10 := hB.c10
  have c11 := hB.c11
  have f1 := hU.f11
  have f2 := hV.f10
  have s1 := hU.c11
  have s2 := hV.c10
  unfold at_ at c10 c11 s1 s2 ⊢
  clear h hb hu hv hU hV hu1 hu2 hv1 hv2 hB
  have fin : Ring ((w.setCell ⟨u, 11, none⟩ (.pointer (some ⟨v, 0, none⟩))).setCell ⟨v, 10, none⟩ (.pointer (some ⟨u, 0, none⟩))) L T ∧ KeepK (fun i => i < w.heap.size ∧ ¬ L i) w ((w.setCell ⟨u, 11, none⟩ (.pointer (some ⟨v, 0, none⟩))).setCell ⟨v, 10, none⟩ (.pointer (some ⟨u, 0, none⟩))) :=
    ⟨(H1.out.1.set11 H1.out.2.2.1).set10 H1.out.2.1, ((KeepK.refl _ w).setCell (p := ⟨u, 11, none⟩) (fun i hi e => hi.2 (e ▸ H1.out.2.1)) _).setCell (p := ⟨v, 10, none⟩) (fun i hi e => hi.2 (e ▸ H1.out.2.2.1)) _⟩
  have FIN := Lib.hid fin
  clear fin
  by_cases hub : u = b
  · subst hub
    clear s1
    go_enter Try.func83, Try.ntmps83
    go_wp2_with (fail)
    go_region
    go_wp2_with (fail)
    go_region
    go_wp2_with (fail)
    refine bodyPost_end (results_none rfl _ _ _) rfl ?_
    exact ⟨rfl, FIN.out.1.drew.drew, FIN.out.2.drew.drew⟩
  · go_enter Try.func83, Try.ntmps83
    go_wp2_with (fail)
    go_region
    go_wp2_with (fail)
    go_region
    go_wp2_with (fail)
    refine bodyPost_end (results_none rfl _ _ _) rfl ?_
    exact ⟨rfl, FIN.out.1.drew.drew, FIN.out.2.drew.drew⟩

def InsP (w : World) (L : Nat → Prop) (T : Nat → Lk) (b : Nat) (e : Ending) (w' : World) : Prop := e = .returned (.tuple #[]) ∧ Ring w' L T ∧ KeepK (fun i => i < w.heap.size ∧ ¬ L i) w w'
set_option maxRecDepth 100000 in
theorem insert_new {w : World} {L : Nat → Prop} {T : Nat → Lk} (h : Ring w L T) {b o : Nat} (ho : L o) {x : Lk} {p q : Option Addr} (hx : LkB w b x p q) (hn : ¬ L b) :
    Calls Try.prog 76 #[.pointer (at_ b), .pointer (at_ o)] w (InsP w (fun i => L i ∨ i = b) (fun i => if i = b then x else T i) b) := by
  obtain ⟨o1, v, ho1, hv, hO⟩ := h.all o ho
  obtain ⟨v1, v2, hv1, hv2, hV⟩ := h.all v hv
  have hob : o ≠ b := fun e => hn (e ▸ ho)
  have hvb : v ≠ b := fun e => hn (e ▸ hv)
  have hbo : b ≠ o := fun e => hn (e ▸ ho)
  have hbv : b ≠ v := fun e => hn (e ▸ hv)
  have H1 := Lib.hid (And.intro h (And.intro ho (And.intro hv (And.intro hO (And.intro hx hn)))))
  have c10 := hx.c10
  have c11 := hx.c11
  have f10 := hx.f10
  have f11 := hx.f11
  have o11 := hO.c11
  have fo := hO.f11
  have s2 := hV.c10
  have fv := hV.f10
  have FIN : RowKit.Hid (InsP w (fun i => L i ∨ i = b) (fun i => if i = b then x else T i) b (.returned (.tuple #[])) ((((w.setCell ⟨b, 10, none⟩ (.pointer (some ⟨o, 0, none⟩))).setCell ⟨b, 11, none⟩ (.pointer (some ⟨v, 0, none⟩))).setCell ⟨o, 11, none⟩ (.pointer (some ⟨b, 0, none⟩))).setCell ⟨v, 10, none⟩ (.pointer (some ⟨b, 0, none⟩)))) := Lib.hid (by
    have r1 : Ring ((w.setCell ⟨b, 10, none⟩ (.pointer (some ⟨o, 0, none⟩))).setCell ⟨b, 11, none⟩ (.pointer (some ⟨v, 0, none⟩))) L T := (h.far (p := ⟨b, 10, none⟩) hn _).far (p := ⟨b, 11, none⟩) hn _
    have r2 := r1.more ho hv ((hx.before (at_ o)).behind (at_ v)) hn
    exact ⟨rfl, (r2.set11 (a := o) (b := b) (.inr rfl)).set10 (a := v) (b := b) (.inr rfl), ((((KeepK.refl _ w).setCell (p := ⟨b, 10, none⟩) (fun i hi e => hi.2 (.inr e)) _).setCell (p := ⟨b, 11, none⟩) (fun i hi e => hi.2 (.inr e)) _).setCell (p := ⟨o, 11, none⟩) (fun i hi e => hi.2 (.inl (e ▸ ho))) _).setCell (p := ⟨v, 10, none⟩) (fun i hi e => hi.2 (.inl (e ▸ hv))) _⟩)
  unfold at_ at o11 s2 ⊢
  clear h ho hv hO hV hx hn hv1 hv2 ho1
  by_cases hov : o = v
  · subst hov
    go_enter Try.func76, Try.ntmps76
    go_wp2_with (fail)
    refine bodyPost_end (results_none rfl _ _ _) rfl ?_
    exact FIN.out
  · go_enter Try.func76, Try.ntmps76
    go_wp2_with (fail)
    refine bodyPost_end (results_none rfl _ _ _) rfl ?_
    exact FIN.out
set_option maxRecDepth 100000 in
/-- A link of the ring is put behind another one. -/
theorem insert_old {w : World} {L : Nat → Prop} {T : Nat → Lk} (h : Ring w L T) {b o : Nat} (ho : L o) (hb : L b) (hbo : b ≠ o) :
    Calls Try.prog 76 #[.pointer (at_ b), .pointer (at_ o)] w (InsP w L T b) := by
  obtain ⟨o1, v, ho1, hv, hO⟩ := h.all o ho
  obtain ⟨v1, v2, hv1, hv2, hV⟩ := h.all v hv
  obtain ⟨p, q, hp, hq, hx⟩ := h.all b hb
  have hob : o ≠ b := fun e => hbo e.symm
  have H1 := Lib.hid (And.intro h (And.intro ho (And.intro hv (And.intro hO (And.intro hx hbo)))))
  have c10 := hx.c10
  have c11 := hx.c11
  have f10 := hx.f10
  have f11 := hx.f11
  have o11 := hO.c11
  have fo := hO.f11
  have s2 := hV.c10
  have fv := hV.f10
  have FIN : RowKit.Hid (InsP w L T b (.returned (.tuple #[])) ((((w.setCell ⟨b, 10, none⟩ (.pointer (some ⟨o, 0, none⟩))).setCell ⟨b, 11, none⟩ (.pointer (some ⟨v, 0, none⟩))).setCell ⟨o, 11, none⟩ (.pointer (some ⟨b, 0, none⟩))).setCell ⟨v, 10, none⟩ (.pointer (some ⟨b, 0, none⟩)))) := Lib.hid (by
    have r1 := (((h.set10 (a := b) ho).set11 (a := b) hv).set11 (a := o) hb).set10 (a := v) hb
    exact ⟨rfl, r1, ((((KeepK.refl _ w).setCell (p := ⟨b, 10, none⟩) (fun i hi e => hi.2 (e ▸ hb)) _).setCell (p := ⟨b, 11, none⟩) (fun i hi e => hi.2 (e ▸ hb)) _).setCell (p := ⟨o, 11, none⟩) (fun i hi e => hi.2 (e ▸ ho)) _).setCell (p := ⟨v, 10, none⟩) (fun i hi e => hi.2 (e ▸ hv)) _⟩)
  unfold at_ at c10 c11 o11 s2 ⊢
  clear h ho hv hO hV hx hv1 hv2 ho1 hp hq
  by_cases hov : o = v
  · subst hov
    go_enter Try.func76, Try.ntmps76
    go_wp2_with (fail)
    refine bodyPost_end (results_none rfl _ _ _) rfl ?_
    exact FIN.out
  · by_cases hbv : b = v
    · subst hbv
      go_enter Try.func76, Try.ntmps76
      go_wp2_with (fail)
      refine bodyPost_end (results_none rfl _ _ _) rfl ?_
      exact FIN.out
    · have hvb : v ≠ b := fun e => hbv e.symm
      go_enter Try.func76, Try.ntmps76
      go_wp2_with (fail)
      refine bodyPost_end (results_none rfl _ _ _) rfl ?_
      exact FIN.out
end Go.Proofs.Ytfipacfompihkaa
