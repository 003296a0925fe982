/- Names that stand one behind the other; a slice of truths that came in. Conditions: none. -/
import Derived.Test.YtgfpnkakglgokaaPackM
import Derived.Test.YtgfpnkakglgokaaReadName
import Derived.Test.YtgfpnkakglgokaaTTab
import Derived.Deep.Grids
namespace Go.Proofs.Ytgfpnkakglgokaa
open Go.ChangeShapes Go.WideShapes Go.ChangeAt Go.RowKit Go.Deep

/-- Names that stand one behind the other. -/
def Chain (l : Bs) : Nat → List (List Bs) → Nat → Prop
  | a, [], q => a = q
  | a, ls :: r, q => ∃ m, Enc l a a ls m ∧ Chain l m r q
theorem Chain.more {l : Bs} (t : Bs) : ∀ {G : List (List Bs)} {a q : Nat}, Chain l a G q → Chain (l ++ t) a G q
  | [], _, _, h => h
  | _ :: _, _, _, ⟨m, h1, h2⟩ => ⟨m, h1.more t, Chain.more t h2⟩
theorem Chain.snoc {l : Bs} {ls : List Bs} {m : Nat} : ∀ {G : List (List Bs)} {a q : Nat}, Chain l a G q → Enc l q q ls m → Chain l a (G ++ [ls]) m
  | [], _, _, h, hE => by cases h; exact ⟨m, hE, rfl⟩
  | _ :: _, _, _, ⟨m', h1, h2⟩, hE => ⟨m', h1, Chain.snoc h2 hE⟩
theorem nread_enc {l : Bs} {a q : Nat} {ls : List Bs} (h : Enc l a a ls q) (hl : (mk ls).length ≤ 255) : nread l a = (mk ls, some q) :=
  nrun_enc h (401 + a) [] none hl (by show nleft [] a < 401 + a; unfold nleft; simp)

abbrev lbl (n : ByteArray) : List Bs := (labs n.data.toList).1
def gd (n : ByteArray) : Bool := isName n.data.toList
theorem chk_gd {n : ByteArray} (h : gd n = true) : chkN n.data.toList = 0 := by unfold chkN; rw [if_pos (show isName n.data.toList = true from h)]
theorem chk_bad {n : ByteArray} (h : gd n = false) : chkN n.data.toList = 2 := by unfold chkN; rw [if_neg (by unfold gd at h; rw [h]; decide)]
theorem gd_size {n : ByteArray} (h : gd n = true) : n.size ≤ 255 := by
  have := ((isName_iff _).1 h).1
  simpa using this
theorem gd_mk {n : ByteArray} (h : gd n = true) : mk (lbl n) = n.data.toList := mk_labs h

theorem nread_beh (l : Bs) (a q : Nat) (h : (nread l a).2 = some q) : a < q ∧ q ≤ l.length :=
  nrun_behind l (401 + a) [] a a none a (fun _ => Nat.le_refl _) (fun q hq => by cases hq) q h
theorem gd_str {n : ByteArray} (h : gd n = true) : (⟨(mk (lbl n)).toArray⟩ : ByteArray) = n := by
  rw [gd_mk h]
theorem TTab.at {w : World} {A : Option Addr} {xs : List Value} (h : TTab w A xs) {j : Nat} {u : Value} (hj : xs[j]? = some u) : ∃ b off, A = some ⟨b, off, none⟩ ∧ b < w.heap.size ∧ w.cell? ⟨b, off + j, none⟩ = some u := by
  obtain ⟨b, off, hA, hlt, hc⟩ := h (by have := (List.getElem?_eq_some_iff.1 hj).1; omega)
  exact ⟨b, off, hA, hlt, hc j u hj⟩

end Go.Proofs.Ytgfpnkakglgokaa
