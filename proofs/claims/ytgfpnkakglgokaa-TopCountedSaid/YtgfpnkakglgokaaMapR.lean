/- A map whose elements are told as the values that they are. Plain: no program in sight. Conditions: none. -/
import Derived.Test.YtgfpnkakglgokaaSl
import Derived.Maps.OwnSet
import Derived.Maps.Views
import Derived.Maps.OwnOps
import Derived.Maps.Own
namespace Go.Proofs.Ytgfpnkakglgokaa
open Go.RowKit Go.Maps Go.ChangeMaps Go.MapKept

def rawR (v : Value) : Option (DataW Value × List MemPlace) := some (.held v, [])
/-- Block b is a map of at most n entries; f tells what stands at a key. -/
def MapV (P : Program) (k : TypeId) (w : World) (b n : Nat) (f : Lit → Option Value) : Prop :=
  ∃ D : DataW Value, w.ownsMap P k rawR b n D ∧ ∀ kl, Maps.has D kl = (f kl).isSome ∧ ∀ v, f kl = some v → ∀ z, D.atKey kl z = .held v
section
variable {P : Program} {k : TypeId} {w w' : World} {b n : Nat} {f : Lit → Option Value}
theorem MapV.made (w : World) (P : Program) (k : TypeId) : MapV P k (w.alloc (.map #[] 0)) w.heap.size 0 (fun _ => none) :=
  ⟨.map [], World.ownsMap_made w P k rawR, fun kl => ⟨rfl, fun v h => by cases h⟩⟩
theorem MapV.lt (h : MapV P k w b n f) : b < w.heap.size := by obtain ⟨D, h1, _⟩ := h; exact h1.lt
theorem MapV.mono (h : MapV P k w b n f) {m : Nat} (hm : n ≤ m) : MapV P k w b m f := by obtain ⟨D, h1, h2⟩ := h; exact ⟨D, h1.mono hm, h2⟩
theorem MapV.congr (h : MapV P k w b n f) {g : Lit → Option Value} (hg : ∀ kl, f kl = g kl) : MapV P k w b n g := by rw [← funext hg]; exact h
theorem MapV.keep (h : MapV P k w b n f) (hk : w'.heap[b]? = w.heap[b]?) : MapV P k w' b n f := by
  obtain ⟨D, ⟨es, clock, hb, F, hs, hD⟩, h2⟩ := h
  exact ⟨D, ⟨es, clock, hk.trans hb, F, hs, hD⟩, h2⟩
theorem MapV.alloc (h : MapV P k w b n f) (o : Obj) : MapV P k (w.alloc o) b n f := h.keep (Below.heap_alloc w o b h.lt)
theorem MapV.drewN (h : MapV P k w b n f) (m : Nat) : MapV P k (w.drewN m) b n f := h
theorem MapV.far (h : MapV P k w b n f) {p : Addr} (hp : b ≠ p.block) (u : Value) : MapV P k (w.setCell p u) b n f := h.keep (Below.heap_setCell w p u b hp)
theorem MapV.grown {row : Option Nat} (h : MapV P k w b n f) (hg : w.grownBy w' row) (hr : some b ≠ row) : MapV P k w' b n f := h.keep (hg.block b h.lt hr)
theorem MapV.below {B : Nat} (h : MapV P k w b n f) (hb : Below B w w') (hB : b < B) : MapV P k w' b n f := h.keep (hb.block b hB)
theorem MapV.keepK {K : Nat → Prop} (h : MapV P k w b n f) (hk : KeepK K w w') (hB : K b) : MapV P k w' b n f := h.keep (hk.block b hB)

/-- 'm[k]'. -/
theorem MapV.look {t e : TypeId} (h : MapV P k w b n f) (K : Keyed P k) (ht : P.underlying t = some (.map k e)) {z : Value} (hz : (zeroValue e).run P w = .ok z w) {key : Value} {kl : Lit} (hkey : keyOf P k key = some kl) :
    (Instr.lookup t (.map (some b)) key false).run P w = .ok ((f kl).getD z) w := by
  obtain ⟨D, h1, h2⟩ := h
  obtain ⟨v, ps, hr, hv⟩ := h1.lookup K ht hz (zd := .held z) (zp := []) rfl hkey
  rw [hr]
  congr 1
  have h3 : DataW.held v = D.atKey kl (.held z) := by
    have := hv
    unfold rawR at this
    injection this with this
    injection this with this _
  cases hf : f kl with
  | none =>
    have h4 : Maps.has D kl = false := by rw [(h2 kl).1, hf]; rfl
    rw [atKey_of_not_has h4] at h3
    injection h3 with h3
  | some x =>
    rw [(h2 kl).2 x hf] at h3
    injection h3 with h3
/-- 'v, ok := m[k]'. -/
theorem MapV.lookOk {t e : TypeId} (h : MapV P k w b n f) (K : Keyed P k) (ht : P.underlying t = some (.map k e)) {z : Value} (hz : (zeroValue e).run P w = .ok z w) {key : Value} {kl : Lit} (hkey : keyOf P k key = some kl) :
    (Instr.lookup t (.map (some b)) key true).run P w = .ok (.tuple #[(f kl).getD z, .bool (f kl).isSome]) w := by
  obtain ⟨D, h1, h2⟩ := h
  obtain ⟨v, ps, hr, hv⟩ := h1.look_ok K ht hz (zd := .held z) (zp := []) rfl hkey
  rw [hr, (h2 kl).1]
  have h3 : DataW.held v = D.atKey kl (.held z) := by
    have := hv
    unfold rawR at this
    injection this with this
    injection this with this _
  cases hf : f kl with
  | none =>
    have h4 : Maps.has D kl = false := by rw [(h2 kl).1, hf]; rfl
    rw [atKey_of_not_has h4] at h3
    injection h3 with h3
    rw [h3]
    rfl
  | some x =>
    rw [(h2 kl).2 x hf] at h3
    injection h3 with h3
    rw [h3]
    rfl
/-- 'm[k] = v'. -/
theorem MapV.store {t e : TypeId} (h : MapV P k w b n f) (K : Keyed P k) (ht : P.underlying t = some (.map k e)) (hn : n < maxLen) {key : Value} {kl : Lit} (hkey : keyOf P k key = some kl) (hkl : WideAt.IsKeyLit kl) (val : Value) :
    ∃ w', (Instr.mapUpdate t (.map (some b)) key val).run P w = .ok () w' ∧ MapV P k w' b (n + 1) (fun x => if x.sameKey kl then some val else f x) ∧ w.grownBy w' (some b) ∧ (∀ a, w'.cell? a = w.cell? a) ∧ ∀ a, w'.frozen? a = w.frozen? a := by
  obtain ⟨D, h1, h2⟩ := h
  have him := h1.isMap
  obtain ⟨w1, hr, h3, h4⟩ := h1.store K ht hn (d := .held val) (ps := []) hkey rfl
  refine ⟨w1, hr, ⟨_, h3, fun x => ?_⟩, h4.grown, fun a => ?_, fun a => h4.frozen a⟩
  · by_cases hx : x = kl
    · subst hx
      dsimp only
      rw [if_pos (WideAt.sameKey_self hkl)]
      refine ⟨has_put_same him hkl _, fun v hv z => ?_⟩
      injection hv with hv
      subst hv
      exact atKey_put_same him hkl _ _
    · dsimp only
      rw [if_neg (by rw [sameKey_ne hx]; simp)]
      refine ⟨(has_put_other hx _).trans (h2 x).1, fun v hv z => ?_⟩
      rw [atKey_put_other hx]
      exact (h2 x).2 v hv z
  · obtain ⟨es, clock, es', clock', hb, rfl⟩ := h4
    by_cases ha : a.block = b
    · unfold World.cell?
      rw [ha, hb, heap_setBlock_same hb]
    · exact World.cell?_of_block (heap_setBlock_other hb _ ha)
/-- 'delete(m, k)'. -/
theorem MapV.drop {t e : TypeId} (h : MapV P k w b n f) (K : Keyed P k) (ht : P.underlying t = some (.map k e)) {key : Value} {kl : Lit} (hkey : keyOf P k key = some kl) (hkl : WideAt.IsKeyLit kl) (ty : TypeId) :
    ∃ w', (Builtin.delete_ #[t, k] ty #[.map (some b), key]).run P w = .ok (.tuple #[]) w' ∧ MapV P k w' b n (fun x => if x.sameKey kl then none else f x) ∧ w.grownBy w' (some b) ∧ (∀ a, w'.cell? a = w.cell? a) ∧ ∀ a, w'.frozen? a = w.frozen? a := by
  obtain ⟨D, h1, h2⟩ := h
  obtain ⟨w1, hr, h3, h4⟩ := h1.drop K ht hkey ty
  refine ⟨w1, hr, ⟨_, h3, fun x => ?_⟩, h4.grown, fun a => ?_, fun a => h4.frozen a⟩
  · by_cases hx : x = kl
    · subst hx
      dsimp only
      rw [if_pos (WideAt.sameKey_self hkl)]
      exact ⟨has_del_same, fun v hv => by cases hv⟩
    · dsimp only
      rw [if_neg (by rw [sameKey_ne hx]; simp)]
      refine ⟨(has_del_other hx).trans (h2 x).1, fun v hv z => ?_⟩
      rw [atKey_del_other hx]
      exact (h2 x).2 v hv z
  · obtain ⟨es, clock, es', clock', hb, rfl⟩ := h4
    by_cases ha : a.block = b
    · unfold World.cell?
      rw [ha, hb, heap_setBlock_same hb]
    · exact World.cell?_of_block (heap_setBlock_other hb _ ha)
end
/-- What a number is as a key. -/
theorem key_int_isKey (q : IntKind) (x : Int) : WideAt.IsKeyLit (.int q x) := trivial
end Go.Proofs.Ytgfpnkakglgokaa
