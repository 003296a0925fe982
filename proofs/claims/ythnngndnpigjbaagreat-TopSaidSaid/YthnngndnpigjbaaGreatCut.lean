/- Plain laws of the texts of names. No program in sight. Conditions: none. The walk of package label's behind. The walk of package label's cut. -/
import Derived.Test.YthnngndnpigjbaaGreatLabelMath
import Derived.Test.YthnngndnpigjbaaGreatRet
import Derived.Test.YthnngndnpigjbaaGreatSl
import Derived.Test.YthnngndnpigjbaaGreatChecked
import Derived.OwnWalk
import Derived.Deep.LoopGhost
import Derived.Deep.QuietTactic
import Derived.BigQuiet
import Derived.Outline
import Derived.Test.YthnngndnpigjbaaGreatRef01
import Derived.Laws.BytesString
import Derived.Deep.DeepMust
import Derived.Laws.IdiomStrings
namespace Go.Proofs.YthnngndnpigjbaaGreat

def digB (c : UInt8) : Bool := decide (48 ≤ c.toNat) && decide (c.toNat ≤ 57)
theorem digB_iff (c : UInt8) : digB c = true ↔ 48 ≤ c.toNat ∧ c.toNat ≤ 57 := by simp [digB]
def dig3 (c d e : UInt8) : Nat := 100 * (c.toNat - 48) + 10 * (d.toNat - 48) + (e.toNat - 48)
/-- The byte that stands behind a backslash, and how many bytes tell it. -/
def behindP : Bs → UInt8 × Nat
  | [] => (0, 0)
  | c :: t => if digB c = false then (c, 1) else match t with
    | d :: e :: _ => if digB d = true ∧ digB e = true ∧ dig3 c d e ≤ 255 then (UInt8.ofNat (dig3 c d e), 3) else (0, 0)
    | _ => (0, 0)
theorem behindP_len (l : Bs) : (behindP l).2 ≤ l.length ∧ (behindP l).2 ≤ 3 := by
  match l with
  | [] => simp [behindP]
  | [c] => simp only [behindP]; split <;> simp
  | [c, d] => simp only [behindP]; split <;> simp
  | c :: d :: e :: r =>
    simp only [behindP]
    split
    · simp
    · split <;> simp
/-- The labels of a text: the one that is begun, those that are done; none: it is no text with labels. -/
def cutF : Nat → Bs → Bs → List Bs → Option (Bs × List Bs)
  | 0, _, lab, ls => some (lab, ls)
  | _ + 1, [], lab, ls => some (lab, ls)
  | f + 1, c :: t, lab, ls =>
    if c = 46 then (if lab = [] then none else cutF f t [] (ls ++ [lab]))
    else if c = 92 then (if (behindP t).2 = 0 then none else cutF f (t.drop (behindP t).2) (lab ++ [(behindP t).1]) ls)
    else if c.toNat < 33 ∨ 126 < c.toNat then none else cutF f t (lab ++ [c]) ls
theorem cutF_more : ∀ (f g : Nat) (l lab : Bs) (ls : List Bs), l.length ≤ f → l.length ≤ g → cutF f l lab ls = cutF g l lab ls
  | 0, 0, _, _, _, _, _ => rfl
  | 0, g + 1, [], _, _, _, _ => rfl
  | 0, _ + 1, _ :: _, _, _, h, _ => by simp at h
  | f + 1, 0, [], _, _, _, _ => rfl
  | _ + 1, 0, _ :: _, _, _, _, h => by simp at h
  | _ + 1, _ + 1, [], _, _, _, _ => rfl
  | f + 1, g + 1, c :: t, lab, ls, h, h2 => by
    simp only [List.length_cons] at h h2
    have hd : (t.drop (behindP t).2).length ≤ t.length := by rw [List.length_drop]; omega
    simp only [cutF]
    rw [cutF_more f g t [] (ls ++ [lab]) (by omega) (by omega), cutF_more f g (t.drop (behindP t).2) (lab ++ [(behindP t).1]) ls (by omega) (by omega), cutF_more f g t (lab ++ [c]) ls (by omega) (by omega)]
def cutG (l lab : Bs) (ls : List Bs) : Option (Bs × List Bs) := cutF l.length l lab ls
theorem cutG_nil (lab : Bs) (ls : List Bs) : cutG [] lab ls = some (lab, ls) := rfl
theorem cutG_cons (c : UInt8) (t lab : Bs) (ls : List Bs) : cutG (c :: t) lab ls =
    if c = 46 then (if lab = [] then none else cutG t [] (ls ++ [lab]))
    else if c = 92 then (if (behindP t).2 = 0 then none else cutG (t.drop (behindP t).2) (lab ++ [(behindP t).1]) ls)
    else if c.toNat < 33 ∨ 126 < c.toNat then none else cutG t (lab ++ [c]) ls := by
  unfold cutG
  simp only [List.length_cons, cutF]
  rw [cutF_more t.length (t.drop (behindP t).2).length (t.drop (behindP t).2) _ _ (by rw [List.length_drop]; omega) (Nat.le_refl _)]
def cutE : Option (Bs × List Bs) → List Bs × Bool
  | none => ([], false)
  | some (lab, ls) => if lab = [] then (ls, !ls.isEmpty) else (ls ++ [lab], true)
/-- What cut answers. -/
def cutR (l : Bs) : List Bs × Bool := cutE (cutG l [] [])
/-- How many bytes all labels that come out can have. -/
theorem cutG_size : ∀ (n : Nat) (l lab : Bs) (ls : List Bs), l.length ≤ n → ∀ lab' ls', cutG l lab ls = some (lab', ls') → lab'.length + (ls'.map List.length).sum ≤ lab.length + (ls.map List.length).sum + l.length ∧ lab'.length + ls'.length ≤ lab.length + ls.length + l.length := by
  intro n
  induction n with
  | zero =>
    intro l lab ls h lab' ls' he
    match l, h with
    | [], _ =>
      rw [cutG_nil] at he
      cases he
      simp
  | succ n ih =>
    intro l lab ls h lab' ls' he
    match l, h with
    | [], _ =>
      rw [cutG_nil] at he
      cases he
      simp
    | c :: t, h =>
      simp only [List.length_cons] at h ⊢
      rw [cutG_cons] at he
      split at he
      · split at he
        · cases he
        · have := ih t [] (ls ++ [lab]) (by omega) lab' ls' he
          simp at this
          rename_i hne
          have : 0 < lab.length := List.length_pos_iff.2 hne
          omega
      · split at he
        · split at he
          · cases he
          · have h1 := ih (t.drop (behindP t).2) (lab ++ [(behindP t).1]) ls (by rw [List.length_drop]; omega) lab' ls' he
            simp at h1
            have := behindP_len t
            omega
        · split at he
          · cases he
          · have := ih t (lab ++ [c]) ls (by omega) lab' ls' he
            simp at this
            omega
end Go.Proofs.YthnngndnpigjbaaGreat

namespace Go.Proofs.YthnngndnpigjbaaGreat
open Go.RowKit Go.Lib

/-- The number of the first k digits. -/
def valD (l : Bs) : Nat → Nat
  | 0 => 0
  | k + 1 => 10 * valD l k + (((l[k]?).map UInt8.toNat).getD 0 - 48)
theorem valD_le (l : Bs) (h : ∀ k c, l[k]? = some c → k < 3 → c.toNat ≤ 57) : ∀ k, k ≤ 3 → valD l k + 1 ≤ 10 ^ k
  | 0, _ => by simp [valD]
  | k + 1, hk => by
    have ih := valD_le l h k (by omega)
    have h9 : ((l[k]?).map UInt8.toNat).getD 0 ≤ 57 := by
      cases hc : l[k]? with
      | none => simp
      | some c => have := h k c hc (by omega); simpa using this
    simp only [valD, Nat.pow_succ]
    omega

end Go.Proofs.YthnngndnpigjbaaGreat

namespace Go.Proofs.YthnngndnpigjbaaGreat
open Go.RowKit Go.Lib

/-- A slice whose values are told; nothing of it lay there before. -/
def CutPost (x : List Bs × Bool) (w : World) (e : Ending) (w' : World) : Prop :=
  ∃ A c, e = .returned (.tuple #[.slice A x.1.length c, .bool x.2]) ∧ Sl w' 1 (.slice A x.1.length c) x.1.length (strs x.1) ∧ (∀ g, (Value.slice A x.1.length c).ownBlock = some g → w.heap.size ≤ g) ∧ Below w.heap.size w w'
theorem cutPost_none {x : List Bs × Bool} {w : World} {V : World} (hx : x = ([], false)) (hb : Below w.heap.size w V) : CutPost x w (.returned (.tuple #[.slice none 0 0, .bool false])) V := by
  subst hx
  exact ⟨none, 0, rfl, Sl.nil _ _, fun g hg => by simp [Value.ownBlock] at hg, hb⟩
theorem src_val {P : Program} {tx e' : TypeId} (hk : P.underlying tx = some (.slice e')) (w : World) (t : TypeId) (u : Value) (h1 : u.oneCell' = true) : Src P 1 tx (.slice (some ⟨w.heap.size, 0, none⟩) 1 1) 1 [u] (w.alloc (.cells #[u] t)) := src_new hk w t u h1
theorem info_u8c : (Tryz.prog.info? 5).map (fun i => (i.zero, i.size, i.bytes)) = some (some (.int .u8 0), 1, 1) := by kernel_rfl
/-- The bytes of an owned slice as a string. -/
theorem sl_conv {w : World} {A : Option Addr} {c : Nat} {l : Bs} (h : Sl w 1 (.slice A l.length c) l.length (l.map b8)) (hp : 0 < l.length) :
    (convert 106 9 (.slice A l.length c)).run Tryz.prog w = .ok (.string ⟨l.toArray⟩) w := by
  obtain ⟨g, cap, hv, _, _, _, hc⟩ := h.form hp
  rw [hv]
  refine run_convert_bytes_back w _ _ _ ⟨g, 0, none⟩ cap l Tryz.underlying106 Tryz.underlying5 Tryz.underlying9 (fun j hj => ?_)
  have : (⟨g, 0, none⟩ : Addr).add j = ⟨g, j, none⟩ := by unfold Addr.add; split <;> simp_all
  rw [this]
  exact hc j _ (by rw [List.getElem?_map, List.getElem?_eq_getElem hj]; rfl)
theorem ext_toN (s : ByteArray) (n : Nat) : (s.extract n s.size).data.toList = s.data.toList.drop n := by
  rw [ByteArray.data_extract, Array.toList_extract, List.extract_eq_take_drop, List.take_of_length_le (by simp)]
/-- .. cut to nothing. -/
theorem Sl.none_ {w : World} {size n c : Nat} {A : Option Addr} {xs : List Value} (h : Sl w size (.slice A n c) n xs) (hn : 0 < n) : Sl w size (.slice A 0 c) 0 [] := by
  refine ⟨by simp, ?_⟩
  rcases h.2 with ⟨_, h0⟩ | ⟨g, cap, hv, h1, h2, h3, h4, _⟩
  · omega
  · injection hv with hA _ hc
    subst hA hc
    exact .inr ⟨g, c, rfl, h1, Nat.zero_le _, h3, h4, fun j u hu => by simp at hu⟩

end Go.Proofs.YthnngndnpigjbaaGreat
