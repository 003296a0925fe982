/- The walk of package label's cut. -/
import Derived.Test.YtenmhfhnhfhooaaDoorBehind
import Derived.Test.YtenmhfhnhfhooaaDoorRef01
import Derived.Laws.BytesString
import Derived.Deep.DeepMust
import Derived.Laws.IdiomStrings
namespace Go.Proofs.YtenmhfhnhfhooaaDoor
open Go.RowKit Go.Lib

/-- A slice whose values are told; nothing of it lay there before. -/
def CutPost (x : List Bs × Bool) (w : World) (e : Ending) (w' : World) : Prop :=
  ∃ A c, e = .returned (.tuple #[.slice A x.1.length c, .bool x.2]) ∧ Sl w' 1 (.slice A x.1.length c) x.1.length (strs x.1) ∧ (∀ g, (Value.slice A x.1.length c).ownBlock = some g → w.heap.size ≤ g) ∧ Below w.heap.size w w'
theorem cutPost_none {x : List Bs × Bool} {w : World} {V : World} (hx : x = ([], false)) (hb : Below w.heap.size w V) : CutPost x w (.returned (.tuple #[.slice none 0 0, .bool false])) V := by
  subst hx
  exact ⟨none, 0, rfl, Sl.nil _ _, fun g hg => by simp [Value.ownBlock] at hg, hb⟩
theorem src_val {P : Program} {tx e' : TypeId} (hk : P.underlying tx = some (.slice e')) (w : World) (t : TypeId) (u : Value) (h1 : u.oneCell' = true) : Src P 1 tx (.slice (some ⟨w.heap.size, 0, none⟩) 1 1) 1 [u] (w.alloc (.cells #[u] t)) := src_new hk w t u h1
theorem info_u8c : (Tryd.prog.info? 5).map (fun i => (i.zero, i.size, i.bytes)) = some (some (.int .u8 0), 1, 1) := by kernel_rfl
/-- The bytes of an owned slice as a string. -/
theorem sl_conv {w : World} {A : Option Addr} {c : Nat} {l : Bs} (h : Sl w 1 (.slice A l.length c) l.length (l.map b8)) (hp : 0 < l.length) :
    (convert 39 9 (.slice A l.length c)).run Tryd.prog w = .ok (.string ⟨l.toArray⟩) w := by
  obtain ⟨g, cap, hv, _, _, _, hc⟩ := h.form hp
  rw [hv]
  refine run_convert_bytes_back w _ _ _ ⟨g, 0, none⟩ cap l Tryd.underlying39 Tryd.underlying5 Tryd.underlying9 (fun j hj => ?_)
  have : (⟨g, 0, none⟩ : Addr).add j = ⟨g, j, none⟩ := by unfold Addr.add; split <;> simp_all
  rw [this]
  exact hc j _ (by rw [List.getElem?_map, List.getElem?_eq_getElem hj]; rfl)
theorem ext_toN (s : ByteArray) (n : Nat) : (s.extract n s.size).data.toList = s.data.toList.drop n := by
  rw [ByteArray.data_extract, Array.toList_extract, List.extract_eq_take_drop, List.take_of_length_le (by simp)]
/-- .. cut to nothing. -/
theorem Sl.none_ {w : World} {size n c : Nat} {A : Option Addr} {xs : List Value} (h : Sl w size (.slice A n c) n xs) (hn : 0 < n) : Sl w size (.slice A 0 c) 0 [] := by
  refine ⟨by simp, ?_⟩
  rcases h.2 with ⟨_, h0⟩ | ⟨g, cap, hv, h1, h2, h3, h4, _⟩
  · omega
  · injection hv with hA _ hc
    subst hA hc
    exact .inr ⟨g, c, rfl, h1, Nat.zero_le _, h3, h4, fun j u hu => by simp at hu⟩

end Go.Proofs.YtenmhfhnhfhooaaDoor
