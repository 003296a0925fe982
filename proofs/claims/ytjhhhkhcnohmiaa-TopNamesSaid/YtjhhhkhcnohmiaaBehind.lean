/- Plain laws of the texts of names. No program in sight. Conditions: none. The walk of package label's behind. -/
import Derived.Test.YtjhhhkhcnohmiaaLabelMath
import Derived.Test.YtjhhhkhcnohmiaaRet
import Derived.Test.YtjhhhkhcnohmiaaSl
import Derived.Test.YtjhhhkhcnohmiaaChecked
import Derived.OwnWalk
import Derived.Deep.LoopGhost
import Derived.Deep.QuietTactic
import Derived.BigQuiet
import Derived.Outline
namespace Go.Proofs.Ytjhhhkhcnohmiaa

def digB (c : UInt8) : Bool := decide (48 ≤ c.toNat) && decide (c.toNat ≤ 57)
theorem digB_iff (c : UInt8) : digB c = true ↔ 48 ≤ c.toNat ∧ c.toNat ≤ 57 := by simp [digB]
def dig3 (c d e : UInt8) : Nat := 100 * (c.toNat - 48) + 10 * (d.toNat - 48) + (e.toNat - 48)
/-- The byte that stands behind a backslash, and how many bytes tell it. -/
def behindP : Bs → UInt8 × Nat
  | [] => (0, 0)
  | c :: t => if digB c = false then (c, 1) else match t with
    | d :: e :: _ => if digB d = true ∧ digB e = true ∧ dig3 c d e ≤ 255 then (UInt8.ofNat (dig3 c d e), 3) else (0, 0)
    | _ => (0, 0)
theorem behindP_len (l : Bs) : (behindP l).2 ≤ l.length ∧ (behindP l).2 ≤ 3 := by
  match l with
  | [] => simp [behindP]
  | [c] => simp only [behindP]; split <;> simp
  | [c, d] => simp only [behindP]; split <;> simp
  | c :: d :: e :: r =>
    simp only [behindP]
    split
    · simp
    · split <;> simp
/-- The labels of a text: the one that is begun, those that are done; none: it is no text with labels. -/
def cutF : Nat → Bs → Bs → List Bs → Option (Bs × List Bs)
  | 0, _, lab, ls => some (lab, ls)
  | _ + 1, [], lab, ls => some (lab, ls)
  | f + 1, c :: t, lab, ls =>
    if c = 46 then (if lab = [] then none else cutF f t [] (ls ++ [lab]))
    else if c = 92 then (if (behindP t).2 = 0 then none else cutF f (t.drop (behindP t).2) (lab ++ [(behindP t).1]) ls)
    else if c.toNat < 33 ∨ 126 < c.toNat then none else cutF f t (lab ++ [c]) ls
theorem cutF_more : ∀ (f g : Nat) (l lab : Bs) (ls : List Bs), l.length ≤ f → l.length ≤ g → cutF f l lab ls = cutF g l lab ls
  | 0, 0, _, _, _, _, _ => rfl
  | 0, g + 1, [], _, _, _, _ => rfl
  | 0, _ + 1, _ :: _, _, _, h, _ => by simp at h
  | f + 1, 0, [], _, _, _, _ => rfl
  | _ + 1, 0, _ :: _, _, _, _, h => by simp at h
  | _ + 1, _ + 1, [], _, _, _, _ => rfl
  | f + 1, g + 1, c :: t, lab, ls, h, h2 => by
    simp only [List.length_cons] at h h2
    have hd : (t.drop (behindP t).2).length ≤ t.length := by rw [List.length_drop]; omega
    simp only [cutF]
    rw [cutF_more f g t [] (ls ++ [lab]) (by omega) (by omega), cutF_more f g (t.drop (behindP t).2) (lab ++ [(behindP t).1]) ls (by omega) (by omega), cutF_more f g t (lab ++ [c]) ls (by omega) (by omega)]
def cutG (l lab : Bs) (ls : List Bs) : Option (Bs × List Bs) := cutF l.length l lab ls
theorem cutG_nil (lab : Bs) (ls : List Bs) : cutG [] lab ls = some (lab, ls) := rfl
theorem cutG_cons (c : UInt8) (t lab : Bs) (ls : List Bs) : cutG (c :: t) lab ls =
    if c = 46 then (if lab = [] then none else cutG t [] (ls ++ [lab]))
    else if c = 92 then (if (behindP t).2 = 0 then none else cutG (t.drop (behindP t).2) (lab ++ [(behindP t).1]) ls)
    else if c.toNat < 33 ∨ 126 < c.toNat then none else cutG t (lab ++ [c]) ls := by
  unfold cutG
  simp only [List.length_cons, cutF]
  rw [cutF_more t.length (t.drop (behindP t).2).length (t.drop (behindP t).2) _ _ (by rw [List.length_drop]; omega) (Nat.le_refl _)]
def cutE : Option (Bs × List Bs) → List Bs × Bool
  | none => ([], false)
  | some (lab, ls) => if lab = [] then (ls, !ls.isEmpty) else (ls ++ [lab], true)
/-- What cut answers. -/
def cutR (l : Bs) : List Bs × Bool := cutE (cutG l [] [])
/-- How many bytes all labels that come out can have. -/
theorem cutG_size : ∀ (n : Nat) (l lab : Bs) (ls : List Bs), l.length ≤ n → ∀ lab' ls', cutG l lab ls = some (lab', ls') → lab'.length + (ls'.map List.length).sum ≤ lab.length + (ls.map List.length).sum + l.length ∧ lab'.length + ls'.length ≤ lab.length + ls.length + l.length := by
  intro n
  induction n with
  | zero =>
    intro l lab ls h lab' ls' he
    match l, h with
    | [], _ =>
      rw [cutG_nil] at he
      cases he
      simp
  | succ n ih =>
    intro l lab ls h lab' ls' he
    match l, h with
    | [], _ =>
      rw [cutG_nil] at he
      cases he
      simp
    | c :: t, h =>
      simp only [List.length_cons] at h ⊢
      rw [cutG_cons] at he
      split at he
      · split at he
        · cases he
        · have := ih t [] (ls ++ [lab]) (by omega) lab' ls' he
          simp at this
          rename_i hne
          have : 0 < lab.length := List.length_pos_iff.2 hne
          omega
      · split at he
        · split at he
          · cases he
          · have h1 := ih (t.drop (behindP t).2) (lab ++ [(behindP t).1]) ls (by rw [List.length_drop]; omega) lab' ls' he
            simp at h1
            have := behindP_len t
            omega
        · split at he
          · cases he
          · have := ih t (lab ++ [c]) ls (by omega) lab' ls' he
            simp at this
            omega
end Go.Proofs.Ytjhhhkhcnohmiaa

namespace Go.Proofs.Ytjhhhkhcnohmiaa
open Go.RowKit Go.Lib

/-- The number of the first k digits. -/
def valD (l : Bs) : Nat → Nat
  | 0 => 0
  | k + 1 => 10 * valD l k + (((l[k]?).map UInt8.toNat).getD 0 - 48)
theorem valD_le (l : Bs) (h : ∀ k c, l[k]? = some c → k < 3 → c.toNat ≤ 57) : ∀ k, k ≤ 3 → valD l k + 1 ≤ 10 ^ k
  | 0, _ => by simp [valD]
  | k + 1, hk => by
    have ih := valD_le l h k (by omega)
    have h9 : ((l[k]?).map UInt8.toNat).getD 0 ≤ 57 := by
      cases hc : l[k]? with
      | none => simp
      | some c => have := h k c hc (by omega); simpa using this
    simp only [valD, Nat.pow_succ]
    omega

set_option maxRecDepth 100000 in
set_option maxHeartbeats 2000000 in
theorem behind_any (s : ByteArray) (hs : s.size ≤ 9223372036854775807) (w : World) :
    Calls Try.prog 87 #[.string s] w fun e w' => e = .returned (.tuple #[.int .u8 ((behindP s.data.toList).1.toNat : Int), .int .i64 ((behindP s.data.toList).2 : Int)]) ∧ w = w' := by
  have hlen : s.data.toList.length = s.size := by simp
  match hl : s.data.toList, hlen with
  | [], hlen =>
    have hz : s.size = 0 := hlen.symm
    have hRe : s = ⟨#[]⟩ := by
      apply ByteArray.ext
      exact Array.eq_empty_of_size_eq_zero hz
    subst hRe
    go_enter Try.func87, Try.ntmps87
    go_wp2_with (fail)
    go_ret2
    exact ⟨rfl, rfl⟩
  | c :: t, hlen =>
    have h0 : 0 < s.size := by rw [← hlen]; simp
    have hc0 : s[0]'h0 = c := by
      have h1 : s.data.toList[0]? = some (s[0]'h0) := by rw [List.getElem?_eq_getElem (by simpa using h0)]; rfl
      rw [hl] at h1
      exact (Option.some.inj h1).symm
    have hne : s.toList.isEmpty = false := by rw [ByteArray.toList_eq, hl]; rfl
    have hsI : (s.size : Int) ≤ 9223372036854775807 := by omega
    have h0I : (0 : Int) < (s.size : Int) := by omega
    cases hd : digB c with
    | false =>
      have hr : behindP (c :: t) = (c, 1) := by simp [behindP, hd]
      rw [hr]
      have hcase : (((s[0]'h0).toNat : Int) < 48) ∨ (¬ (((s[0]'h0).toNat : Int) < 48) ∧ (57 : Int) < ((s[0]'h0).toNat : Int)) := by
        rw [hc0]
        have : ¬ (48 ≤ c.toNat ∧ c.toNat ≤ 57) := by rw [← digB_iff, hd]; simp
        omega
      have HC := Lib.hid hc0
      clear hc0 hr hd hl hlen hs
      rcases hcase with h1 | ⟨h1, h2⟩
      all_goals
        go_enter Try.func87, Try.ntmps87
        go_wp2_with (fail)
        go_ret2
        rw [HC.out]
        exact ⟨rfl, rfl⟩
    | true =>
      have hdc := (digB_iff c).1 hd
      have g1 : ¬ (((s[0]'h0).toNat : Int) < 48) := by rw [hc0]; omega
      have g2 : ¬ ((57 : Int) < ((s[0]'h0).toNat : Int)) := by rw [hc0]; omega
      match t, hl, hlen with
      | [], hl, hlen =>
        have hsz : s.size = 1 := hlen.symm
        have g3 : (s.size : Int) < 3 := by omega
        have hr : behindP [c] = (0, 0) := by simp [behindP, hd]
        rw [hr]
        clear hc0 hr hd hl hlen hs hdc hsz
        go_enter Try.func87, Try.ntmps87
        go_wp2_with (fail)
        go_ret2
        exact ⟨rfl, rfl⟩
      | [d], hl, hlen =>
        have hsz : s.size = 2 := hlen.symm
        have g3 : (s.size : Int) < 3 := by omega
        have hr : behindP [c, d] = (0, 0) := by simp [behindP, hd]
        rw [hr]
        clear hc0 hr hd hl hlen hs hdc hsz
        go_enter Try.func87, Try.ntmps87
        go_wp2_with (fail)
        go_ret2
        exact ⟨rfl, rfl⟩
      | d :: e :: r, hl, hlen =>
        have hsz3 : 3 ≤ s.size := by rw [← hlen]; simp
        have g3 : ¬ (s.size : Int) < 3 := by omega
        obtain ⟨L, hL⟩ : ∃ L, c :: d :: e :: r = L := ⟨_, rfl⟩
        have hat : ∀ k (h : k < s.size), L[k]? = some (s[k]'h) := fun k h => by
          rw [← hL, ← hl, List.getElem?_eq_getElem (by simpa using h)]; rfl
        obtain ⟨x, hx⟩ : ∃ x, behindP L = x := ⟨_, rfl⟩
        rw [hL, hx]
        have hx2 : x = if digB d = true ∧ digB e = true ∧ dig3 c d e ≤ 255 then (UInt8.ofNat (dig3 c d e), 3) else (0, 0) := by
          rw [← hx, ← hL]; simp [behindP, hd]
        have hall : (∀ j y, j < 3 → L[j]? = some y → digB y = true) → digB d = true ∧ digB e = true ∧ valD L 3 = dig3 c d e := by
          intro h
          have h1 := h 1 d (by omega) (by rw [← hL]; rfl)
          have h2 := h 2 e (by omega) (by rw [← hL]; rfl)
          refine ⟨h1, h2, ?_⟩
          rw [← hL]
          simp only [valD, List.getElem?_cons_zero, List.getElem?_cons_succ, Option.map_some, Option.getD_some]
          unfold dig3
          omega
        have hno : ∀ k y, k < 3 → L[k]? = some y → digB y = false → x = (0, 0) := by
          intro k y hk hy hf
          rw [hx2, if_neg]
          rintro ⟨h1, h2, _⟩
          rw [← hL] at hy
          match k, hk with
          | 0, _ => cases hy; rw [hd] at hf; cases hf
          | 1, _ => cases hy; rw [h1] at hf; cases hf
          | 2, _ => cases hy; rw [h2] at hf; cases hf
        have HX := Lib.hid (And.intro hx2 (And.intro hall hno))
        have HAT := Lib.hid hat
        clear hc0 hd hl hlen hs hdc hx hL hx2 hall hno hat
        go_enter Try.func87, Try.ntmps87
        go_wp2_with (fail)
        go_loopg [4, 21] 3 (fun g v i wr => ∃ (k n : Nat), g + k = 3 ∧ v = .int .i64 (n : Int) ∧ i = .int .i64 (k : Int) ∧ wr = w ∧ n ≤ 1000 ∧ Aside (n = valD L k) ∧ Aside (∀ j y, j < k → L[j]? = some y → digB y = true))
        case atStart => exact ⟨0, 0, by omega, rfl, rfl, rfl, by omega, (show Aside _ from rfl), (show Aside _ from fun j y h => by omega)⟩
        case round =>
          obtain ⟨k, n, hg, rfl, rfl, rfl, hn, hv, hal⟩ := hrel
          by_cases hlt : k < 3
          · have hks : k < s.size := by omega
            have hk3 : (k : Int) < 3 := by omega
            have hksI : (k : Int) < (s.size : Int) := by omega
            have hat := HAT.out k hks
            by_cases hdk : digB (s[k]'hks) = true
            · have hdk' := (digB_iff _).1 hdk
              have q1 : ¬ (((s[k]'hks).toNat : Int) < 48) := by omega
              have q2 : ¬ ((57 : Int) < ((s[k]'hks).toNat : Int)) := by omega
              have q3 : (48 : Int) ≤ ((s[k]'hks).toNat : Int) := by omega
              have q4 : ((s[k]'hks).toNat : Int) ≤ 57 := by omega
              have hal' : ∀ j y, j < k + 1 → L[j]? = some y → digB y = true := by
                intro j y hj hy
                by_cases hjk : j = k
                · subst hjk
                  rw [hat] at hy
                  rw [← Option.some.inj hy]; exact hdk
                · exact hal.out j y (by omega) hy
              have hv' : valD L (k + 1) = 10 * n + ((s[k]'hks).toNat - 48) := by
                simp only [valD]
                rw [hat, hv.out]; rfl
              have hn' : valD L (k + 1) ≤ 1000 := by
                have hb := valD_le (L.take (k + 1)) (fun j y hy hj => by
                  have hjk : j < k + 1 := by
                    have := (List.getElem?_eq_some_iff.1 hy).1
                    simp at this; omega
                  rw [List.getElem?_take_of_lt hjk] at hy
                  exact ((digB_iff _).1 (hal' j y hjk hy)).2) (k + 1) (by omega)
                have e1 : ∀ m, m ≤ k + 1 → valD (L.take (k + 1)) m = valD L m := by
                  intro m
                  induction m with
                  | zero => intro _; rfl
                  | succ m ih => intro hm; simp only [valD]; rw [ih (by omega), List.getElem?_take_of_lt (by omega)]
                rw [e1 _ (Nat.le_refl _)] at hb
                have : 10 ^ (k + 1) ≤ 10 ^ 3 := Nat.pow_le_pow_right (by omega) (by omega)
                omega
              have HN := Lib.hid (And.intro hal' (And.intro hv' hn'))
              have hnI : (n : Int) ≤ 1000 := by omega
              clear hal' hv' hn' hal hv hat hdk hdk'
              go_wp2_with (fail)
              go_roundg (3 - (k + 1))
              case measure => omega
              case rel =>
                have h5 := HN.out.2.1
                refine ⟨k + 1, valD L (k + 1), by omega, ?_, by go_num, rfl, HN.out.2.2, rfl, HN.out.1⟩
                rw [h5]
                congr 1
                omega
            · have hf : digB (s[k]'hks) = false := by simpa using hdk
              have hx0 := HX.out.2.2 k _ hlt hat hf
              have hcase : (((s[k]'hks).toNat : Int) < 48) ∨ (¬ (((s[k]'hks).toNat : Int) < 48) ∧ (57 : Int) < ((s[k]'hks).toNat : Int)) := by
                have : ¬ (48 ≤ (s[k]'hks).toNat ∧ (s[k]'hks).toNat ≤ 57) := by rw [← digB_iff, hf]; simp
                omega
              have HX0 := Lib.hid hx0
              clear hat hdk hf hal hv hx0
              rcases hcase with q1 | ⟨q1, q2⟩
              all_goals
                go_wp2_with (fail)
                go_ret2
                rw [HX0.out]
                exact ⟨rfl, rfl⟩
          · obtain rfl : k = 3 := by omega
            obtain ⟨h1, h2, h3⟩ := HX.out.2.1 hal.out
            have hv2 := hv.out
            rw [h3] at hv2
            have hx3 := HX.out.1
            have hnI : (n : Int) ≤ 1000 := by omega
            by_cases hb : 255 < n
            · have hbI : (255 : Int) < (n : Int) := by omega
              have HX0 := Lib.hid (show x = (0, 0) from by rw [hx3, if_neg (by omega)])
              clear hv hal h1 h2 h3 hv2 hx3 hg hlt
              go_wp2_with (fail)
              go_ret2
              rw [HX0.out]
              exact ⟨rfl, rfl⟩
            · have hbI : ¬ (255 : Int) < (n : Int) := by omega
              have hbI2 : (n : Int) ≤ 255 := by omega
              have HX0 := Lib.hid (show x = (UInt8.ofNat n, 3) ∧ (UInt8.ofNat n).toNat = n from by
                refine ⟨by rw [hx3, if_pos ⟨h1, h2, by omega⟩, hv2], ?_⟩
                rw [UInt8.toNat_ofNat']; omega)
              clear hv hal h1 h2 h3 hv2 hx3 hg hlt
              go_wp2_with (fail)
              go_ret2
              rw [HX0.out.1]
              refine ⟨?_, rfl⟩
              show _ = Ending.returned (.tuple #[.int .u8 ((UInt8.ofNat n).toNat : Int), .int .i64 ((3 : Nat) : Int)])
              rw [HX0.out.2]
              rfl
end Go.Proofs.Ytjhhhkhcnohmiaa
