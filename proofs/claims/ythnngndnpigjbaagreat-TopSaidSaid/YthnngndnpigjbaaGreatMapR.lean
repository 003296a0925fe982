/- A map whose elements are told as the values that they are. Plain: no program in sight. Conditions: none. A map whose elements are told as they are: a store at a key that is there makes it no longer. Plain: no program in sight. Conditions: none. 'm[k] = append(m[k], v)': an entry is taken, whether there is one or not, and stored to later. Plain: no program in sight. Conditions: none. An entry of a map that is made and then stored to ('m[k]++' with a call within k). Plain. Conditions: none. -/
import Derived.Test.YthnngndnpigjbaaGreatSl
import Derived.Maps.OwnSet
import Derived.Maps.Views
import Derived.Maps.OwnOps
import Derived.Maps.Own
import Derived.Maps.Keyed
import Derived.MapKept
namespace Go.Proofs.YthnngndnpigjbaaGreat
open Go.RowKit Go.Maps Go.ChangeMaps Go.MapKept

def rawR (v : Value) : Option (DataW Value × List MemPlace) := some (.held v, [])
/-- Block b is a map of at most n entries; f tells what stands at a key. -/
def MapV (P : Program) (k : TypeId) (w : World) (b n : Nat) (f : Lit → Option Value) : Prop :=
  ∃ D : DataW Value, w.ownsMap P k rawR b n D ∧ ∀ kl, Maps.has D kl = (f kl).isSome ∧ ∀ v, f kl = some v → ∀ z, D.atKey kl z = .held v
section
variable {P : Program} {k : TypeId} {w w' : World} {b n : Nat} {f : Lit → Option Value}
theorem MapV.made (w : World) (P : Program) (k : TypeId) : MapV P k (w.alloc (.map #[] 0)) w.heap.size 0 (fun _ => none) :=
  ⟨.map [], World.ownsMap_made w P k rawR, fun kl => ⟨rfl, fun v h => by cases h⟩⟩
theorem MapV.lt (h : MapV P k w b n f) : b < w.heap.size := by obtain ⟨D, h1, _⟩ := h; exact h1.lt
theorem MapV.mono (h : MapV P k w b n f) {m : Nat} (hm : n ≤ m) : MapV P k w b m f := by obtain ⟨D, h1, h2⟩ := h; exact ⟨D, h1.mono hm, h2⟩
theorem MapV.congr (h : MapV P k w b n f) {g : Lit → Option Value} (hg : ∀ kl, f kl = g kl) : MapV P k w b n g := by rw [← funext hg]; exact h
theorem MapV.keep (h : MapV P k w b n f) (hk : w'.heap[b]? = w.heap[b]?) : MapV P k w' b n f := by
  obtain ⟨D, ⟨es, clock, hb, F, hs, hD⟩, h2⟩ := h
  exact ⟨D, ⟨es, clock, hk.trans hb, F, hs, hD⟩, h2⟩
theorem MapV.alloc (h : MapV P k w b n f) (o : Obj) : MapV P k (w.alloc o) b n f := h.keep (Below.heap_alloc w o b h.lt)
theorem MapV.drewN (h : MapV P k w b n f) (m : Nat) : MapV P k (w.drewN m) b n f := h
theorem MapV.far (h : MapV P k w b n f) {p : Addr} (hp : b ≠ p.block) (u : Value) : MapV P k (w.setCell p u) b n f := h.keep (Below.heap_setCell w p u b hp)
theorem MapV.grown {row : Option Nat} (h : MapV P k w b n f) (hg : w.grownBy w' row) (hr : some b ≠ row) : MapV P k w' b n f := h.keep (hg.block b h.lt hr)
theorem MapV.below {B : Nat} (h : MapV P k w b n f) (hb : Below B w w') (hB : b < B) : MapV P k w' b n f := h.keep (hb.block b hB)
theorem MapV.keepK {K : Nat → Prop} (h : MapV P k w b n f) (hk : KeepK K w w') (hB : K b) : MapV P k w' b n f := h.keep (hk.block b hB)

/-- 'm[k]'. -/
theorem MapV.look {t e : TypeId} (h : MapV P k w b n f) (K : Keyed P k) (ht : P.underlying t = some (.map k e)) {z : Value} (hz : (zeroValue e).run P w = .ok z w) {key : Value} {kl : Lit} (hkey : keyOf P k key = some kl) :
    (Instr.lookup t (.map (some b)) key false).run P w = .ok ((f kl).getD z) w := by
  obtain ⟨D, h1, h2⟩ := h
  obtain ⟨v, ps, hr, hv⟩ := h1.lookup K ht hz (zd := .held z) (zp := []) rfl hkey
  rw [hr]
  congr 1
  have h3 : DataW.held v = D.atKey kl (.held z) := by
    have := hv
    unfold rawR at this
    injection this with this
    injection this with this _
  cases hf : f kl with
  | none =>
    have h4 : Maps.has D kl = false := by rw [(h2 kl).1, hf]; rfl
    rw [atKey_of_not_has h4] at h3
    injection h3 with h3
  | some x =>
    rw [(h2 kl).2 x hf] at h3
    injection h3 with h3
/-- 'v, ok := m[k]'. -/
theorem MapV.lookOk {t e : TypeId} (h : MapV P k w b n f) (K : Keyed P k) (ht : P.underlying t = some (.map k e)) {z : Value} (hz : (zeroValue e).run P w = .ok z w) {key : Value} {kl : Lit} (hkey : keyOf P k key = some kl) :
    (Instr.lookup t (.map (some b)) key true).run P w = .ok (.tuple #[(f kl).getD z, .bool (f kl).isSome]) w := by
  obtain ⟨D, h1, h2⟩ := h
  obtain ⟨v, ps, hr, hv⟩ := h1.look_ok K ht hz (zd := .held z) (zp := []) rfl hkey
  rw [hr, (h2 kl).1]
  have h3 : DataW.held v = D.atKey kl (.held z) := by
    have := hv
    unfold rawR at this
    injection this with this
    injection this with this _
  cases hf : f kl with
  | none =>
    have h4 : Maps.has D kl = false := by rw [(h2 kl).1, hf]; rfl
    rw [atKey_of_not_has h4] at h3
    injection h3 with h3
    rw [h3]
    rfl
  | some x =>
    rw [(h2 kl).2 x hf] at h3
    injection h3 with h3
    rw [h3]
    rfl
/-- 'm[k] = v'. -/
theorem MapV.store {t e : TypeId} (h : MapV P k w b n f) (K : Keyed P k) (ht : P.underlying t = some (.map k e)) (hn : n < maxLen) {key : Value} {kl : Lit} (hkey : keyOf P k key = some kl) (hkl : WideAt.IsKeyLit kl) (val : Value) :
    ∃ w', (Instr.mapUpdate t (.map (some b)) key val).run P w = .ok () w' ∧ MapV P k w' b (n + 1) (fun x => if x.sameKey kl then some val else f x) ∧ w.grownBy w' (some b) ∧ (∀ a, w'.cell? a = w.cell? a) ∧ ∀ a, w'.frozen? a = w.frozen? a := by
  obtain ⟨D, h1, h2⟩ := h
  have him := h1.isMap
  obtain ⟨w1, hr, h3, h4⟩ := h1.store K ht hn (d := .held val) (ps := []) hkey rfl
  refine ⟨w1, hr, ⟨_, h3, fun x => ?_⟩, h4.grown, fun a => ?_, fun a => h4.frozen a⟩
  · by_cases hx : x = kl
    · subst hx
      dsimp only
      rw [if_pos (WideAt.sameKey_self hkl)]
      refine ⟨has_put_same him hkl _, fun v hv z => ?_⟩
      injection hv with hv
      subst hv
      exact atKey_put_same him hkl _ _
    · dsimp only
      rw [if_neg (by rw [sameKey_ne hx]; simp)]
      refine ⟨(has_put_other hx _).trans (h2 x).1, fun v hv z => ?_⟩
      rw [atKey_put_other hx]
      exact (h2 x).2 v hv z
  · obtain ⟨es, clock, es', clock', hb, rfl⟩ := h4
    by_cases ha : a.block = b
    · unfold World.cell?
      rw [ha, hb, heap_setBlock_same hb]
    · exact World.cell?_of_block (heap_setBlock_other hb _ ha)
/-- 'delete(m, k)'. -/
theorem MapV.drop {t e : TypeId} (h : MapV P k w b n f) (K : Keyed P k) (ht : P.underlying t = some (.map k e)) {key : Value} {kl : Lit} (hkey : keyOf P k key = some kl) (hkl : WideAt.IsKeyLit kl) (ty : TypeId) :
    ∃ w', (Builtin.delete_ #[t, k] ty #[.map (some b), key]).run P w = .ok (.tuple #[]) w' ∧ MapV P k w' b n (fun x => if x.sameKey kl then none else f x) ∧ w.grownBy w' (some b) ∧ (∀ a, w'.cell? a = w.cell? a) ∧ ∀ a, w'.frozen? a = w.frozen? a := by
  obtain ⟨D, h1, h2⟩ := h
  obtain ⟨w1, hr, h3, h4⟩ := h1.drop K ht hkey ty
  refine ⟨w1, hr, ⟨_, h3, fun x => ?_⟩, h4.grown, fun a => ?_, fun a => h4.frozen a⟩
  · by_cases hx : x = kl
    · subst hx
      dsimp only
      rw [if_pos (WideAt.sameKey_self hkl)]
      exact ⟨has_del_same, fun v hv => by cases hv⟩
    · dsimp only
      rw [if_neg (by rw [sameKey_ne hx]; simp)]
      refine ⟨(has_del_other hx).trans (h2 x).1, fun v hv z => ?_⟩
      rw [atKey_del_other hx]
      exact (h2 x).2 v hv z
  · obtain ⟨es, clock, es', clock', hb, rfl⟩ := h4
    by_cases ha : a.block = b
    · unfold World.cell?
      rw [ha, hb, heap_setBlock_same hb]
    · exact World.cell?_of_block (heap_setBlock_other hb _ ha)
end
/-- What a number is as a key. -/
theorem key_int_isKey (q : IntKind) (x : Int) : WideAt.IsKeyLit (.int q x) := trivial
end Go.Proofs.YthnngndnpigjbaaGreat

namespace Go.Proofs.YthnngndnpigjbaaGreat
open Go.RowKit Go.Maps Go.ChangeMaps Go.MapKept

section
variable {H : Type} {P : Program} {k : TypeId} {R : Value → Option (DataW H × List MemPlace)} {w : World} {b n : Nat} {D : DataW H}
theorem own_tight (h : w.ownsMap P k R b n D) : w.ownsMap P k R b (Maps.size D) D := by
  obtain ⟨es, clock, hb, F, hs, rfl⟩ := h
  exact ⟨es, clock, hb, F, by simp [Maps.size, length_sorted], rfl⟩
theorem size_put_there (hD : IsMap D) {kl : Lit} (hh : Maps.has D kl = true) (d : DataW H) : Maps.size (D.put kl d) ≤ Maps.size D := by
  obtain ⟨es, rfl⟩ := hD
  show (DataW.insert (kl, d) (es.filter fun p => !p.1.sameKey kl)).length ≤ es.length
  rw [length_insert]
  have h2 : (es.any fun p => p.1.sameKey kl) = true := hh
  rw [List.any_eq_true] at h2
  obtain ⟨p, hp, hk⟩ := h2
  have h9 : (es.filter fun p => !p.1.sameKey kl).length < es.length := List.length_filter_lt_length_iff_exists.2 ⟨p, hp, by simp [hk]⟩
  omega
end
theorem own_mono_size {H : Type} {P : Program} {k : TypeId} {R : Value → Option (DataW H × List MemPlace)} {w : World} {b n : Nat} {D : DataW H} (h : w.ownsMap P k R b n D) {m : Nat} (hm : Maps.size D ≤ m) : w.ownsMap P k R b m D := (own_tight h).mono hm
section
variable {P : Program} {k : TypeId} {w w' : World} {b n : Nat} {f : Lit → Option Value}
/-- 'm[k] = v', where there is one. -/
theorem MapV.store_there {t e : TypeId} (h : MapV P k w b n f) (K : Keyed P k) (ht : P.underlying t = some (.map k e)) (hn : n < maxLen) {key : Value} {kl : Lit} (hkey : keyOf P k key = some kl) (hkl : WideAt.IsKeyLit kl) (hf : (f kl).isSome = true) (val : Value) :
    ∃ w', (Instr.mapUpdate t (.map (some b)) key val).run P w = .ok () w' ∧ MapV P k w' b n (fun x => if x.sameKey kl then some val else f x) ∧ w.grownBy w' (some b) ∧ (∀ a, w'.cell? a = w.cell? a) ∧ ∀ a, w'.frozen? a = w.frozen? a := by
  obtain ⟨D, h1, h2⟩ := h
  have him := h1.isMap
  obtain ⟨w1, hr, h3, h4⟩ := h1.store K ht hn (d := .held val) (ps := []) hkey rfl
  have h5 : w1.ownsMap P k rawR b n (D.put kl (.held val)) := own_mono_size h3 (Nat.le_trans (size_put_there him (by rw [(h2 kl).1]; exact hf) _) h1.size_le)
  refine ⟨w1, hr, ⟨_, h5, fun x => ?_⟩, h4.grown, fun a => ?_, fun a => h4.frozen a⟩
  · by_cases hx : x = kl
    · subst hx
      dsimp only
      rw [if_pos (WideAt.sameKey_self hkl)]
      refine ⟨has_put_same him hkl _, fun v hv z => ?_⟩
      injection hv with hv
      subst hv
      exact atKey_put_same him hkl _ _
    · dsimp only
      rw [if_neg (by rw [sameKey_ne hx]; simp)]
      refine ⟨(has_put_other hx _).trans (h2 x).1, fun v hv z => ?_⟩
      rw [atKey_put_other hx]
      exact (h2 x).2 v hv z
  · obtain ⟨es, clock, es', clock', hb, rfl⟩ := h4
    by_cases ha : a.block = b
    · unfold World.cell?
      rw [ha, hb, heap_setBlock_same hb]
    · exact World.cell?_of_block (heap_setBlock_other hb _ ha)
end
end Go.Proofs.YthnngndnpigjbaaGreat

namespace Go.Proofs.YthnngndnpigjbaaGreat
open Go.RowKit Go.Maps Go.ChangeMaps Go.MapKept

theorem find_born (l : List MapEntry) (h : (l.map (·.born)).Nodup) {j : Nat} {e : MapEntry} (hj : l[j]? = some e) : l.findIdx? (fun x => (x.born : Int) == (e.born : Int)) = some j := by
  obtain ⟨hjl, rfl⟩ := List.getElem?_eq_some_iff.1 hj
  rw [List.findIdx?_eq_some_iff_getElem]
  refine ⟨hjl, by simp, fun i hi => ?_⟩
  have hil : i < l.length := by omega
  have hne : (l.map (·.born))[i]'(by simpa using hil) ≠ (l.map (·.born))[j]'(by simpa using hjl) := fun e => by
    have := (List.getElem_inj h).1 e
    omega
  simp only [List.getElem_map] at hne
  simp only [Bool.not_eq_true, beq_eq_false_iff_ne, ne_eq]
  omega
section
variable {P : Program} {k : TypeId} {w w' : World} {b n : Nat} {f : Lit → Option Value}
/-- The store to the entry of a key that is there is the store at that key. -/
theorem entryStore_at {t e : TypeId} (K : Keyed P k) (ht : P.underlying t = some (.map k e)) {es : Array MapEntry} {clock : Nat} {U : World} (hb : U.heap[b]? = some (.map es clock)) (hst : Stamped es clock)
    {key : Value} {kl : Lit} (hkey : keyOf P k key = some kl) {j : Nat} {e0 : MapEntry} (h1 : (Instr.findKey k key es.toList).run P U = .ok (some (j, e0.val)) U) (h2 : es.toList[j]? = some e0) (h3 : e0.key = key) (val : Value) :
    (Instr.entryStore t (.map (some b)) (goInt e0.born) val).run P U = (Instr.mapUpdate t (.map (some b)) key val).run P U := by
  have hj : es[j]? = some e0 := by simpa using h2
  have hfi : es.findIdx? (fun x => (x.born : Int) == (e0.born : Int)) = some j := by
    rw [← find_born es.toList hst.2.1 h2]
    obtain ⟨l⟩ := es
    simp
  have hmo : (es.modify j fun x => { x with val := val }) = es.modify j fun x => { x with key := key, val := val } := by
    apply Array.ext_getElem?
    intro i
    rw [Array.getElem?_modify, Array.getElem?_modify]
    by_cases h : j = i
    · subst h
      simp only [if_true, hj, Option.map_some]
      rw [← h3]
    · simp [h]
  have e1 : (Instr.mapUpdate t (.map (some b)) key val).run P U = .ok () (setBlock U b (.map (es.modify j fun x => { x with key := key, val := val }) clock)) := by
    simp [Instr.mapUpdate, run_underlying ht, MapKept.run_getObj_map hb, K.check U false hkey, h1, hj, h3, K.stays U hkey, MapKept.run_setObj_map _ hb, Result.andThen, setBlock]
  rw [e1, ← hmo]
  simp [Instr.entryStore, MapKept.run_getObj_map hb, goInt, asInt, asIntOf, hfi, MapKept.run_setObj_map _ hb, Result.andThen, setBlock]
theorem MapV.entry {t e : TypeId} (h : MapV P k w b n f) (K : Keyed P k) (ht : P.underlying t = some (.map k e)) (hn : n + 1 < maxLen) {key : Value} {kl : Lit} (hkey : keyOf P k key = some kl) (hkl : WideAt.IsKeyLit kl) {z : Value} (hz : (zeroValue e).run P w = .ok z w) :
    ∃ w1 s, (Instr.mapEntry t (.map (some b)) key).run P w = .ok (.tuple #[(f kl).getD z, s]) w1 ∧ w.grownBy w1 (some b) ∧ (∀ a, w1.cell? a = w.cell? a) ∧ (∀ a, w1.frozen? a = w.frozen? a) ∧
      ∀ U, U.heap[b]? = w1.heap[b]? → ∀ val, ∃ U2, (Instr.entryStore t (.map (some b)) s val).run P U = .ok () U2 ∧ MapV P k U2 b (n + 1) (fun x => if x.sameKey kl then some val else f x) ∧ U.grownBy U2 (some b) ∧ (∀ a, U2.cell? a = U.cell? a) ∧ ∀ a, U2.frozen? a = U.frozen? a := by
  have hlook := h.lookOk K ht hz hkey
  obtain ⟨v0, hv0⟩ : ∃ v0, (f kl).getD z = v0 := ⟨_, rfl⟩
  obtain ⟨u1, hr1, hm1, hg1, hc1, hf1⟩ := h.store K ht (by omega) hkey hkl v0
  have hh := h
  obtain ⟨D, ⟨es, clock, hb, F, hs, hD⟩, h2⟩ := hh
  -- what follows once the entry is there
  have later : ∀ (es1 : Array MapEntry) (clock1 j : Nat) (e0 : MapEntry), u1.heap[b]? = some (.map es1 clock1) → Stamped es1 clock1 → (∀ W, (Instr.findKey k key es1.toList).run P W = .ok (some (j, e0.val)) W) → es1.toList[j]? = some e0 → e0.key = key →
      ∀ U, U.heap[b]? = u1.heap[b]? → ∀ val, ∃ U2, (Instr.entryStore t (.map (some b)) (goInt e0.born) val).run P U = .ok () U2 ∧ MapV P k U2 b (n + 1) (fun x => if x.sameKey kl then some val else f x) ∧ U.grownBy U2 (some b) ∧ (∀ a, U2.cell? a = U.cell? a) ∧ ∀ a, U2.frozen? a = U.frozen? a := by
    intro es1 clock1 j e0 hb1 hst hfind hej hek U hU val
    have hmU : MapV P k U b (n + 1) (fun x => if x.sameKey kl then some v0 else f x) := hm1.keep hU
    obtain ⟨U2, q1, q2, q3, q4, q5⟩ := hmU.store_there K ht hn hkey hkl (by rw [if_pos (WideAt.sameKey_self hkl)]; rfl) val
    refine ⟨U2, ?_, q2.congr fun x => ?_, q3, q4, q5⟩
    · rw [entryStore_at K ht (hU.trans hb1) hst hkey (hfind U) hej hek val]
      exact q1
    · by_cases hx : x.sameKey kl = true
      · rw [if_pos hx, if_pos hx]
      · rw [if_neg hx, if_neg hx, if_neg hx]
  rw [hv0]
  rcases K.find w hkey es.toList F.keys with ⟨k1, k2⟩ | ⟨j, e0, k1, k2, k3⟩
  · have hfn : v0 = z := by
      have h3 : (Instr.lookup t (.map (some b)) key true).run P w = .ok (.tuple #[z, .bool false]) w := by
        simp [Instr.lookup, run_underlying ht, MapKept.run_getObj_map hb, K.check w es.isEmpty hkey, k1, hz, Result.andThen]
      rw [hlook] at h3
      injection h3 with h3
      injection h3 with h3
      have h4 := congrArg (fun a : Array Value => a[0]?) h3
      simp at h4
      rw [← hv0, h4]
    have e1 : (Instr.mapUpdate t (.map (some b)) key v0).run P w = .ok () (setBlock w b (.map (es.push ⟨key, v0, clock⟩) (clock + 1))) := by
      simp [Instr.mapUpdate, run_underlying ht, MapKept.run_getObj_map hb, K.check w false hkey, k1, MapKept.run_setObj_map _ hb, Result.andThen, setBlock]
    rw [hr1] at e1
    injection e1 with _ e1
    have hb1 : u1.heap[b]? = some (.map (es.push ⟨key, v0, clock⟩) (clock + 1)) := by rw [e1]; exact heap_setBlock_same hb _
    have hfind : ∀ W, (Instr.findKey k key (es.push ⟨key, v0, clock⟩).toList).run P W = .ok (some (es.size, v0)) W := fun W => by
      have hkeys : ∀ x ∈ (es.push ⟨key, v0, clock⟩).toList, ∃ l, keyOf P k x.key = some l := fun x hx => by
        simp only [Array.toList_push, List.mem_append, List.mem_singleton] at hx
        rcases hx with hx | rfl
        · exact F.keys x hx
        · exact ⟨kl, hkey⟩
      rcases K.find W hkey (es.push ⟨key, v0, clock⟩).toList hkeys with ⟨_, q2⟩ | ⟨j, e0, q1, q2, q3⟩
      · exact absurd rfl (q2 ⟨key, v0, clock⟩ (by simp))
      · have hjl := (List.getElem?_eq_some_iff.1 q2).1
        simp at hjl
        by_cases hjs : j = es.size
        · subst hjs
          simp at q2
          subst q2
          exact q1
        · have hj2 : es.toList[j]? = some e0 := by
            rw [Array.toList_push, List.getElem?_append_left (by simp; omega)] at q2
            exact q2
          exact absurd q3 (k2 e0 (List.mem_of_getElem? hj2))
    refine ⟨u1, goInt clock, ?_, hg1, hc1, hf1, ?_⟩
    · rw [e1, hfn]
      simp [Instr.mapEntry, run_underlying ht, MapKept.run_getObj_map hb, K.check w false hkey, k1, hz, MapKept.run_setObj_map _ hb, Result.andThen, setBlock]
    · exact later _ _ es.size ⟨key, v0, clock⟩ hb1 (stamped_push F.stamped k2) hfind (by simp) rfl
  · have hj : es[j]? = some e0 := by simpa using k2
    have hfe : v0 = e0.val := by
      have h3 : (Instr.lookup t (.map (some b)) key true).run P w = .ok (.tuple #[e0.val, .bool true]) w := by
        simp [Instr.lookup, run_underlying ht, MapKept.run_getObj_map hb, K.check w es.isEmpty hkey, k1, Result.andThen]
      rw [hlook] at h3
      injection h3 with h3
      injection h3 with h3
      have h4 := congrArg (fun a : Array Value => a[0]?) h3
      simp at h4
      rw [← hv0, h4]
    have hmo : (es.modify j fun x => { x with key := key, val := v0 }) = es := by
      apply Array.ext_getElem?
      intro i
      rw [Array.getElem?_modify]
      by_cases h : j = i
      · subst h
        rw [if_pos rfl, hj, hfe, ← k3]
        rfl
      · simp [h]
    have hmo2 : (es.modify j fun x => { x with key := key }) = es := by
      apply Array.ext_getElem?
      intro i
      rw [Array.getElem?_modify]
      by_cases h : j = i
      · subst h
        rw [if_pos rfl, hj, ← k3]
        rfl
      · simp [h]
    have e1 : (Instr.mapUpdate t (.map (some b)) key v0).run P w = .ok () (setBlock w b (.map (es.modify j fun x => { x with key := key, val := v0 }) clock)) := by
      simp [Instr.mapUpdate, run_underlying ht, MapKept.run_getObj_map hb, K.check w false hkey, k1, hj, k3, K.stays w hkey, MapKept.run_setObj_map _ hb, Result.andThen, setBlock]
    rw [hr1, hmo] at e1
    injection e1 with _ e1
    have hb1 : u1.heap[b]? = some (.map es clock) := by rw [e1]; exact heap_setBlock_same hb _
    have hfind : ∀ W, (Instr.findKey k key es.toList).run P W = .ok (some (j, e0.val)) W := fun W => by
      rcases K.find W hkey es.toList F.keys with ⟨_, q2⟩ | ⟨j', e', q1, q2, q3⟩
      · exact absurd k3 (q2 e0 (List.mem_of_getElem? k2))
      · have hkk : j' = j := by
          obtain ⟨a1, a2⟩ := List.getElem?_eq_some_iff.1 q2
          obtain ⟨c1, c2⟩ := List.getElem?_eq_some_iff.1 k2
          have hnd := F.stamped.2.2
          have : (es.toList.map (·.key))[j']'(by simpa using a1) = (es.toList.map (·.key))[j]'(by simpa using c1) := by
            simp only [List.getElem_map, a2, c2, q3, k3]
          exact (List.getElem_inj hnd).1 this
        subst hkk
        rw [k2] at q2
        injection q2 with q2
        subst q2
        exact q1
    refine ⟨u1, goInt e0.born, ?_, hg1, hc1, hf1, later es clock j e0 hb1 F.stamped hfind k2 k3⟩
    rw [e1, hfe]
    simp [Instr.mapEntry, run_underlying ht, MapKept.run_getObj_map hb, K.check w false hkey, k1, hj, k3, K.stays w hkey, hmo2, MapKept.run_setObj_map _ hb, Result.andThen, setBlock]
end
end Go.Proofs.YthnngndnpigjbaaGreat

namespace Go.Proofs.YthnngndnpigjbaaGreat
open Go.RowKit Go.Maps Go.ChangeMaps Go.MapKept

theorem find_push (es : Array MapEntry) (a : MapEntry) (h : ∀ x ∈ es.toList, x.born < a.born) : (es.push a).findIdx? (fun e => (e.born : Int) == (a.born : Int)) = some es.size := by
  obtain ⟨l⟩ := es
  have hn : l.findIdx? (fun e => (e.born : Int) == (a.born : Int)) = none := by
    rw [List.findIdx?_eq_none_iff]
    intro x hx
    have := h x (by simpa using hx)
    simp only [beq_eq_false_iff_ne, ne_eq]
    omega
  simp [List.findIdx?_append, hn]
theorem modify_push (es : Array MapEntry) (a : MapEntry) (g : MapEntry → MapEntry) : (es.push a).modify es.size g = es.push (g a) := by
  apply Array.ext_getElem?
  intro i
  rw [Array.getElem?_modify, Array.getElem?_push, Array.getElem?_push]
  by_cases h : es.size = i
  · subst h; simp
  · have : ¬ i = es.size := fun e => h e.symm
    simp [h, this]
section
variable {P : Program} {k : TypeId} {w w' : World} {b n : Nat} {f : Lit → Option Value}
theorem MapV.entry_new {t e : TypeId} (h : MapV P k w b n f) (K : Keyed P k) (ht : P.underlying t = some (.map k e)) (hn : n < maxLen) {key : Value} {kl : Lit} (hkey : keyOf P k key = some kl) (hkl : WideAt.IsKeyLit kl) (hf : f kl = none) {z : Value} (hz : (zeroValue e).run P w = .ok z w) (val : Value) :
    ∃ w1 w2 s, (Instr.mapEntry t (.map (some b)) key).run P w = .ok (.tuple #[z, s]) w1 ∧ (Instr.entryStore t (.map (some b)) s val).run P w1 = .ok () w2 ∧
      MapV P k w1 b (n + 1) (fun x => if x.sameKey kl then some z else f x) ∧ MapV P k w2 b (n + 1) (fun x => if x.sameKey kl then some val else f x) ∧ w.grownBy w1 (some b) ∧ w.grownBy w2 (some b) ∧ ∀ a, w1.cell? a = w.cell? a := by
  have hlook := h.lookOk K ht hz hkey
  obtain ⟨u1, hr1, hm1, hg1, hc1, _⟩ := h.store K ht hn hkey hkl z
  obtain ⟨u2, hr2, hm2, hg2, _, _⟩ := h.store K ht hn hkey hkl val
  obtain ⟨D, ⟨es, clock, hb, F, hs, hD⟩, h2⟩ := h
  rcases K.find w hkey es.toList F.keys with ⟨k1, k2⟩ | ⟨j, e0, k1, k2, k3⟩
  · have e1 : (Instr.mapUpdate t (.map (some b)) key z).run P w = .ok () (setBlock w b (.map (es.push ⟨key, z, clock⟩) (clock + 1))) := by
      simp [Instr.mapUpdate, run_underlying ht, MapKept.run_getObj_map hb, K.check w false hkey, k1, MapKept.run_setObj_map _ hb, Result.andThen, setBlock]
    have e2 : (Instr.mapUpdate t (.map (some b)) key val).run P w = .ok () (setBlock w b (.map (es.push ⟨key, val, clock⟩) (clock + 1))) := by
      simp [Instr.mapUpdate, run_underlying ht, MapKept.run_getObj_map hb, K.check w false hkey, k1, MapKept.run_setObj_map _ hb, Result.andThen, setBlock]
    rw [hr1] at e1
    rw [hr2] at e2
    injection e1 with _ e1
    injection e2 with _ e2
    subst e1 e2
    refine ⟨_, _, goInt clock, ?_, ?_, hm1, hm2, hg1, hg2, hc1⟩
    · simp [Instr.mapEntry, run_underlying ht, MapKept.run_getObj_map hb, K.check w false hkey, k1, hz, MapKept.run_setObj_map _ hb, Result.andThen, setBlock]
    · have hb1 : (setBlock w b (.map (es.push ⟨key, z, clock⟩) (clock + 1))).heap[b]? = some (.map (es.push ⟨key, z, clock⟩) (clock + 1)) := heap_setBlock_same hb _
      have hfi := find_push es ⟨key, z, clock⟩ fun x hx => F.stamped.1 x hx
      have hmo := modify_push es ⟨key, z, clock⟩ fun e => { e with val := val }
      simp only at hfi hmo
      have hU : ∀ U : World, U.heap[b]? = some (.map (es.push ⟨key, z, clock⟩) (clock + 1)) → (Instr.entryStore t (.map (some b)) (goInt clock) val).run P U = .ok () (setBlock U b (.map (es.push ⟨key, val, clock⟩) (clock + 1))) := fun U hb2 => by
        simp [Instr.entryStore, MapKept.run_getObj_map hb2, goInt, asInt, asIntOf, hfi, MapKept.run_setObj_map _ hb2, Result.andThen, setBlock, hmo]
      rw [hU _ hb1]
      simp [setBlock]
  · exfalso
    have hj : es[j]? = some e0 := by simpa using k2
    rw [hf] at hlook
    simp [Instr.lookup, run_underlying ht, MapKept.run_getObj_map hb, K.check w es.isEmpty hkey, k1, Result.andThen] at hlook
end
end Go.Proofs.YthnngndnpigjbaaGreat
