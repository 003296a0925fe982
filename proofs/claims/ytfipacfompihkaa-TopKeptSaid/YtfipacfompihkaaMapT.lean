/- A map whose elements are told as they are: a store at a key that is there makes it no longer. Plain: no program in sight. Conditions: none. -/
import Derived.Test.YtfipacfompihkaaMapR
namespace Go.Proofs.Ytfipacfompihkaa
open Go.RowKit Go.Maps Go.ChangeMaps Go.MapKept

section
variable {H : Type} {P : Program} {k : TypeId} {R : Value → Option (DataW H × List MemPlace)} {w : World} {b n : Nat} {D : DataW H}
theorem own_tight (h : w.ownsMap P k R b n D) : w.ownsMap P k R b (Maps.size D) D := by
  obtain ⟨es, clock, hb, F, hs, rfl⟩ := h
  exact ⟨es, clock, hb, F, by simp [Maps.size, length_sorted], rfl⟩
theorem size_put_there (hD : IsMap D) {kl : Lit} (hh : Maps.has D kl = true) (d : DataW H) : Maps.size (D.put kl d) ≤ Maps.size D := by
  obtain ⟨es, rfl⟩ := hD
  show (DataW.insert (kl, d) (es.filter fun p => !p.1.sameKey kl)).length ≤ es.length
  rw [length_insert]
  have h2 : (es.any fun p => p.1.sameKey kl) = true := hh
  rw [List.any_eq_true] at h2
  obtain ⟨p, hp, hk⟩ := h2
  have h9 : (es.filter fun p => !p.1.sameKey kl).length < es.length := List.length_filter_lt_length_iff_exists.2 ⟨p, hp, by simp [hk]⟩
  omega
end
theorem own_mono_size {H : Type} {P : Program} {k : TypeId} {R : Value → Option (DataW H × List MemPlace)} {w : World} {b n : Nat} {D : DataW H} (h : w.ownsMap P k R b n D) {m : Nat} (hm : Maps.size D ≤ m) : w.ownsMap P k R b m D := (own_tight h).mono hm
section
variable {P : Program} {k : TypeId} {w w' : World} {b n : Nat} {f : Lit → Option Value}
/-- 'm[k] = v', where there is one. -/
theorem MapV.store_there {t e : TypeId} (h : MapV P k w b n f) (K : Keyed P k) (ht : P.underlying t = some (.map k e)) (hn : n < maxLen) {key : Value} {kl : Lit} (hkey : keyOf P k key = some kl) (hkl : WideAt.IsKeyLit kl) (hf : (f kl).isSome = true) (val : Value) :
    ∃ w', (Instr.mapUpdate t (.map (some b)) key val).run P w = .ok () w' ∧ MapV P k w' b n (fun x => if x.sameKey kl then some val else f x) ∧ w.grownBy w' (some b) ∧ (∀ a, w'.cell? a = w.cell? a) ∧ ∀ a, w'.frozen? a = w.frozen? a := by
  obtain ⟨D, h1, h2⟩ := h
  have him := h1.isMap
  obtain ⟨w1, hr, h3, h4⟩ := h1.store K ht hn (d := .held val) (ps := []) hkey rfl
  have h5 : w1.ownsMap P k rawR b n (D.put kl (.held val)) := own_mono_size h3 (Nat.le_trans (size_put_there him (by rw [(h2 kl).1]; exact hf) _) h1.size_le)
  refine ⟨w1, hr, ⟨_, h5, fun x => ?_⟩, h4.grown, fun a => ?_, fun a => h4.frozen a⟩
  · by_cases hx : x = kl
    · subst hx
      dsimp only
      rw [if_pos (WideAt.sameKey_self hkl)]
      refine ⟨has_put_same him hkl _, fun v hv z => ?_⟩
      injection hv with hv
      subst hv
      exact atKey_put_same him hkl _ _
    · dsimp only
      rw [if_neg (by rw [sameKey_ne hx]; simp)]
      refine ⟨(has_put_other hx _).trans (h2 x).1, fun v hv z => ?_⟩
      rw [atKey_put_other hx]
      exact (h2 x).2 v hv z
  · obtain ⟨es, clock, es', clock', hb, rfl⟩ := h4
    by_cases ha : a.block = b
    · unfold World.cell?
      rw [ha, hb, heap_setBlock_same hb]
    · exact World.cell?_of_block (heap_setBlock_other hb _ ha)
end
end Go.Proofs.Ytfipacfompihkaa
