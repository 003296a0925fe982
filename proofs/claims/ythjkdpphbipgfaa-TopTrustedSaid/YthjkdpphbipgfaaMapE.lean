/- An entry of a map that is made and then stored to ('m[k]++' with a call within k). Plain. Conditions: none. -/
import Derived.Test.YthjkdpphbipgfaaMapR
import Derived.Maps.Keyed
import Derived.MapKept
namespace Go.Proofs.Ythjkdpphbipgfaa
open Go.RowKit Go.Maps Go.ChangeMaps Go.MapKept

theorem find_push (es : Array MapEntry) (a : MapEntry) (h : ∀ x ∈ es.toList, x.born < a.born) : (es.push a).findIdx? (fun e => (e.born : Int) == (a.born : Int)) = some es.size := by
  obtain ⟨l⟩ := es
  have hn : l.findIdx? (fun e => (e.born : Int) == (a.born : Int)) = none := by
    rw [List.findIdx?_eq_none_iff]
    intro x hx
    have := h x (by simpa using hx)
    simp only [beq_eq_false_iff_ne, ne_eq]
    omega
  simp [List.findIdx?_append, hn]
theorem modify_push (es : Array MapEntry) (a : MapEntry) (g : MapEntry → MapEntry) : (es.push a).modify es.size g = es.push (g a) := by
  apply Array.ext_getElem?
  intro i
  rw [Array.getElem?_modify, Array.getElem?_push, Array.getElem?_push]
  by_cases h : es.size = i
  · subst h; simp
  · have : ¬ i = es.size := fun e => h e.symm
    simp [h, this]
section
variable {P : Program} {k : TypeId} {w w' : World} {b n : Nat} {f : Lit → Option Value}
theorem MapV.entry_new {t e : TypeId} (h : MapV P k w b n f) (K : Keyed P k) (ht : P.underlying t = some (.map k e)) (hn : n < maxLen) {key : Value} {kl : Lit} (hkey : keyOf P k key = some kl) (hkl : WideAt.IsKeyLit kl) (hf : f kl = none) {z : Value} (hz : (zeroValue e).run P w = .ok z w) (val : Value) :
    ∃ w1 w2 s, (Instr.mapEntry t (.map (some b)) key).run P w = .ok (.tuple #[z, s]) w1 ∧ (Instr.entryStore t (.map (some b)) s val).run P w1 = .ok () w2 ∧
      MapV P k w1 b (n + 1) (fun x => if x.sameKey kl then some z else f x) ∧ MapV P k w2 b (n + 1) (fun x => if x.sameKey kl then some val else f x) ∧ w.grownBy w1 (some b) ∧ w.grownBy w2 (some b) ∧ ∀ a, w1.cell? a = w.cell? a := by
  have hlook := h.lookOk K ht hz hkey
  obtain ⟨u1, hr1, hm1, hg1, hc1, _⟩ := h.store K ht hn hkey hkl z
  obtain ⟨u2, hr2, hm2, hg2, _, _⟩ := h.store K ht hn hkey hkl val
  obtain ⟨D, ⟨es, clock, hb, F, hs, hD⟩, h2⟩ := h
  rcases K.find w hkey es.toList F.keys with ⟨k1, k2⟩ | ⟨j, e0, k1, k2, k3⟩
  · have e1 : (Instr.mapUpdate t (.map (some b)) key z).run P w = .ok () (setBlock w b (.map (es.push ⟨key, z, clock⟩) (clock + 1))) := by
      simp [Instr.mapUpdate, run_underlying ht, MapKept.run_getObj_map hb, K.check w false hkey, k1, MapKept.run_setObj_map _ hb, Result.andThen, setBlock]
    have e2 : (Instr.mapUpdate t (.map (some b)) key val).run P w = .ok () (setBlock w b (.map (es.push ⟨key, val, clock⟩) (clock + 1))) := by
      simp [Instr.mapUpdate, run_underlying ht, MapKept.run_getObj_map hb, K.check w false hkey, k1, MapKept.run_setObj_map _ hb, Result.andThen, setBlock]
    rw [hr1] at e1
    rw [hr2] at e2
    injection e1 with _ e1
    injection e2 with _ e2
    subst e1 e2
    refine ⟨_, _, goInt clock, ?_, ?_, hm1, hm2, hg1, hg2, hc1⟩
    · simp [Instr.mapEntry, run_underlying ht, MapKept.run_getObj_map hb, K.check w false hkey, k1, hz, MapKept.run_setObj_map _ hb, Result.andThen, setBlock]
    · have hb1 : (setBlock w b (.map (es.push ⟨key, z, clock⟩) (clock + 1))).heap[b]? = some (.map (es.push ⟨key, z, clock⟩) (clock + 1)) := heap_setBlock_same hb _
      have hfi := find_push es ⟨key, z, clock⟩ fun x hx => F.stamped.1 x hx
      have hmo := modify_push es ⟨key, z, clock⟩ fun e => { e with val := val }
      simp only at hfi hmo
      have hU : ∀ U : World, U.heap[b]? = some (.map (es.push ⟨key, z, clock⟩) (clock + 1)) → (Instr.entryStore t (.map (some b)) (goInt clock) val).run P U = .ok () (setBlock U b (.map (es.push ⟨key, val, clock⟩) (clock + 1))) := fun U hb2 => by
        simp [Instr.entryStore, MapKept.run_getObj_map hb2, goInt, asInt, asIntOf, hfi, MapKept.run_setObj_map _ hb2, Result.andThen, setBlock, hmo]
      rw [hU _ hb1]
      simp [setBlock]
  · exfalso
    have hj : es[j]? = some e0 := by simpa using k2
    rw [hf] at hlook
    simp [Instr.lookup, run_underlying ht, MapKept.run_getObj_map hb, K.check w es.isEmpty hkey, k1, Result.andThen] at hlook
end
end Go.Proofs.Ythjkdpphbipgfaa
