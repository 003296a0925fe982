/- A slice that reads as texts; keys of two parts. Plain. Conditions: none. -/
import Derived.Test.YthnngndnpigjbaaGreatRes
import Derived.Lib.SliceRun
import Derived.OwnWalk
import Derived.Deep.LoopGhost
import Derived.Outline
import Derived.Shelf.Abstract
import Derived.ChangeKeys
import Derived.Test.YthnngndnpigjbaaGreatSame
import Derived.Test.YthnngndnpigjbaaGreatTTab
namespace Go.Proofs.YthnngndnpigjbaaGreat
open Go.RowKit Go.Lib

/-- A slice that reads as texts. -/
def STab (w : World) (A : Option Addr) (xs : List ByteArray) : Prop := TTab w A (xs.map Value.string)
theorem STab.below {w w' : World} {A : Option Addr} {xs : List ByteArray} (h : STab w A xs) (hb : Below w.heap.size w w') : STab w' A xs := TTab.below h hb
theorem STab.nil_ {w : World} {A : Option Addr} : STab w A [] := fun h => absurd h (by simp)
theorem STab.reads {w : World} {A : Option Addr} {xs : List ByteArray} (h : STab w A xs) : Reads w w.heap.size 1 A xs.length (xs.map Value.string) := by
  refine ⟨by simp, fun hp => ?_⟩
  obtain ⟨b, off, hA, hlt, hc⟩ := h (by simpa using hp)
  exact ⟨⟨b, off, none⟩, hA, hlt, fun j u hu => by rw [add_lit']; exact hc j u hu⟩
theorem str_one (xs : List ByteArray) : ∀ u ∈ xs.map Value.string, u.oneCell' = true := by
  intro u hu
  obtain ⟨x, _, rfl⟩ := List.mem_map.1 hu
  rfl
theorem stab_of_sl {w : World} {A : Option Addr} {c : Nat} {xs : List ByteArray} (h : Sl w 1 (.slice A xs.length c) xs.length (xs.map Value.string)) : STab w A xs :=
  ttab_of_sl (by rw [List.length_map]; exact h)
theorem STab.keep {w w' : World} {A : Option Addr} {xs : List ByteArray} (h : STab w A xs) (hs : w.heap.size ≤ w'.heap.size) (hk : 0 < xs.length → ∀ a, A = some a → w'.heap[a.block]? = w.heap[a.block]?) : STab w' A xs := fun hp => by
  obtain ⟨b, off, hA, hlt, hc⟩ := h hp
  refine ⟨b, off, hA, Nat.lt_of_lt_of_le hlt hs, fun j u hu => ?_⟩
  rw [World.cell?_of_block (w := w) (a := ⟨b, off + j, none⟩) (hk (by simpa using hp) ⟨b, off, none⟩ hA)]
  exact hc j u hu
theorem info_strC : (Tryz.prog.info? 9).map (fun i => (i.zero, i.size, i.bytes)) = some (some (.string ⟨#[]⟩), 1, 16) := by kernel_rfl
def plK (s : Bs) (k : Int) : Lit := .string (keyBytes [.string s, .int .u16 k])
theorem types_manyC : ∃ m, Tryz.prog.types.size = m + 2 := by
  have h : (2 ≤ Tryz.prog.types.size) := of_decide_eq_true (by kernel_rfl)
  exact ⟨Tryz.prog.types.size - 2, by omega⟩
theorem str_cellsC : Tryz.prog.cellsOf 9 = 1 := by kernel_rfl
theorem rt_cellsC : Tryz.prog.cellsOf 30 = 1 := by kernel_rfl
theorem laidOutC : laidOutB Tryz.prog = true := by kernel_rfl
theorem wf16C {x : Int} (h : 0 ≤ x ∧ x ≤ 65535) : (Lit.int .u16 x).wf = true := by
  simp [Lit.wf, IntKind.min, IntKind.max, IntKind.signed, IntKind.bits]; omega
theorem plK_isKey (s : Bs) (k : Int) : WideAt.IsKeyLit (plK s k) := trivial
theorem plK_inj {s s' : Bs} {k k' : Int} (hs : s.length ≤ maxLen) (hs' : s'.length ≤ maxLen) (hk : 0 ≤ k ∧ k ≤ 65535) (hk' : 0 ≤ k' ∧ k' ≤ 65535) (h : plK s k = plK s' k') : s = s' ∧ k = k' := by
  unfold plK at h
  injection h with h
  have := keyBytes_inj (l := [.string s, .int .u16 k]) (l' := [.string s', .int .u16 k']) ⟨trivial, rfl, trivial⟩ (fun a ha => by
    simp only [List.mem_cons, List.not_mem_nil, or_false] at ha
    rcases ha with rfl | rfl
    · exact hs
    · exact wf16C hk) (fun a ha => by
    simp only [List.mem_cons, List.not_mem_nil, or_false] at ha
    rcases ha with rfl | rfl
    · exact hs'
    · exact wf16C hk') h
  injection this with h1 h2
  injection h2 with h2 _
  injection h1 with h1
  injection h2 with _ h2
  exact ⟨h1, h2⟩
end Go.Proofs.YthnngndnpigjbaaGreat
