/- Lists of texts, as slices: plain. Conditions: none. -/
import Derived.Test.YtenmhfhnhfhooaaDoorRef01
import Derived.Test.YtenmhfhnhfhooaaDoorTTab
namespace Go.Proofs.YtenmhfhnhfhooaaDoor
open Go.RowKit Go.Shelf

theorem strs_get {xs : List Bs} {k : Nat} {x : Bs} (h : xs[k]? = some x) : (strs xs)[k]? = some (.string ⟨x.toArray⟩) := by simp [strs, h]
theorem strs_len (xs : List Bs) : (strs xs).length = xs.length := by simp [strs]
theorem sl_tt {w : World} {A : Option Addr} {c : Nat} {L : List Bs} (h : Sl w 1 (.slice A L.length c) L.length (strs L)) : TTab w A (strs L) := by
  rw [← strs_len L] at h
  exact ttab_of_sl h
end Go.Proofs.YtenmhfhnhfhooaaDoor
