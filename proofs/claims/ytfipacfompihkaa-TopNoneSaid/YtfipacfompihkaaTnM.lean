/- What the cache of TopNone comes to, in plain words. Conditions: none. -/
import Derived.Test.YtfipacfompihkaaCuts
import Derived.Test.YtfipacfompihkaaCaP
namespace Go.Proofs.Ytfipacfompihkaa
open Go.RowKit Go.Lib

def V0e : Bs → Int → Option En := fun _ _ => none
/-- What stands when the servers are put: they, if that is held. -/
structure NsV (held : Bool) (n : ByteArray) (now : Int) (V : Bs → Int → Option En) : Prop where
  no : held = false → ∀ s k, V s k = none
  yes : held = true → isName n.data.toList = true ∧ ∃ l xs un, now < un ∧ ∀ s k, V s k = if s = foldB n.data.toList ∧ k = 2 then some ⟨n, 2, l, xs, 2, false, false, un⟩ else none
def PutN (w : World) (g mb : Nat) (L : Nat → Prop) (n : ByteArray) (now : Int) (e : Ending) (w' : World) : Prop :=
  ∃ held, e = .returned (.bool held) ∧ ∃ L' V, CaV w' g mb 9 1 L' V ∧ NsV held n now V ∧ (∀ i, L' i → L i ∨ w.heap.size ≤ i) ∧ KeepK (fun i => i < w.heap.size ∧ ¬ L i ∧ i ≠ mb) w w'
theorem putN {w : World} {g mb : Nat} {L : Nat → Prop} {n : ByteArray} {l now : Int} {xs : List ByteArray} {e : Ending} {w' : World} (hnow : 0 ≤ now ∧ now ≤ 1099511627776) (hl : 0 ≤ l) (h : PutP w g mb 9 0 L V0e n 2 l xs 2 now e w') : PutN w g mb L n now e w' := by
  rcases h with ⟨hok, _, h⟩ | ⟨_, h1, h2, h3⟩
  · obtain ⟨h1, ⟨L', h2, h3⟩, h4⟩ := h
    have hnm : isName n.data.toList = true := by
      unfold setOk at hok
      simp only [Bool.and_eq_true] at hok
      exact hok.1
    cases hh : holds V0e (putE n 2 l xs 2) (min l 604800) now with
    | false =>
      rw [hh] at h1 h2
      exact ⟨false, h1, L', V0e, h2, ⟨fun _ _ _ => rfl, (fun h => nomatch h)⟩, h3, h4⟩
    | true =>
      rw [hh] at h1 h2
      refine ⟨true, h1, L', _, h2, ⟨(fun h => nomatch h), fun _ => ⟨hnm, l, xs, now + min l 604800, ?_, fun s k => rfl⟩⟩, h3, h4⟩
      unfold holds at hh
      simp only [Bool.and_eq_true, Bool.not_eq_true', decide_eq_false_iff_not] at hh
      have := hh.1.1.1
      omega
  · exact ⟨false, h1, L, V0e, h2.more (by omega), ⟨fun _ _ _ => rfl, (fun h => nomatch h)⟩, fun i hi => .inl hi, h3⟩
/-- What stands when it is put that there is none. -/
def noE (q : ByteArray) (t' ttl now : Int) (all : Bool) : En := ⟨q, t', ttl, [], 4, true, all, now + ttl⟩
theorem keeps_ns {held : Bool} {n : ByteArray} {now : Int} {V : Bs → Int → Option En} (h : NsV held n now V) (s : Bs) (k : Int) : keepsOut (V s k) 4 now = false := by
  cases held with
  | false => rw [h.no rfl]; rfl
  | true =>
    obtain ⟨_, l, xs, un, _, hV⟩ := h.yes rfl
    rw [hV]
    split
    · show (decide (now < un) && decide ((4 : Int) < 2)) = false
      rw [decide_eq_false (show ¬ (4 : Int) < 2 by decide), Bool.and_false]
    · rfl
theorem holds_ns {held : Bool} {n : ByteArray} {now : Int} {V : Bs → Int → Option En} (h : NsV held n now V) (hnow : 0 ≤ now ∧ now ≤ 1099511627776) (q : ByteArray) (t' l : Int) (all : Bool) (ttl u : Int) (xs : List ByteArray) :
    holds V ⟨q, t', l, xs, 4, true, all, u⟩ ttl now = !decide (ttl = 0) := by
  unfold holds
  dsimp only
  rw [keeps_ns h, decide_eq_false (show ¬ now < 0 by omega), decide_eq_false (show ¬ 4611686018427387904 < now by omega)]
  simp
/-- What is known behind it. -/
structure AfterV (held put : Bool) (n q : ByteArray) (t' ttl now : Int) (all : Bool) (V : Bs → Int → Option En) : Prop where
  eq : ∃ V1, NsV held n now V1 ∧ ∀ s k, V s k = if put = true ∧ s = foldB q.data.toList ∧ k = t' then some (noE q t' ttl now all) else V1 s k
theorem after_get {held : Bool} {n q : ByteArray} {t ttl now : Int} {all : Bool} {V : Bs → Int → Option En} (h : AfterV held true n q (if all = true then 0 else t) ttl now all V) (hp : 0 < ttl) :
    gets V q t 4 now = some (noE q (if all = true then 0 else t) ttl now all) := by
  obtain ⟨V1, h1, hV⟩ := h.eq
  have hat : V (foldB q.data.toList) (if all = true then 0 else t) = some (noE q (if all = true then 0 else t) ttl now all) := by rw [hV, if_pos ⟨rfl, rfl, rfl⟩]
  have hlv : liveE (some (noE q (if all = true then 0 else t) ttl now all)) 4 now = some (noE q (if all = true then 0 else t) ttl now all) := by
    unfold liveE noE
    dsimp only
    rw [if_pos ⟨by omega, by omega⟩]
  by_cases ht : t = (if all = true then 0 else t)
  · rw [← ht] at hat hlv ⊢
    exact gets_first (by rw [hat, hlv])
  · have hall : all = true := by cases all with
      | true => rfl
      | false => exact absurd rfl ht
    subst hall
    rw [if_pos rfl] at hat hlv ht ⊢
    have hno : liveE (V (foldB q.data.toList) t) 4 now = none := by
      rw [hV, if_neg (fun e => ht e.2.2)]
      cases held with
      | false => rw [h1.no rfl]; rfl
      | true =>
        obtain ⟨_, l, xs, un, _, hV1⟩ := h1.yes rfl
        rw [hV1]
        split
        · unfold liveE
          dsimp only
          rw [if_neg (by omega)]
        · rfl
    rw [gets_then hno, hat, hlv]
theorem bs_ba (x : Bs) : (⟨x.toArray⟩ : ByteArray).data.toList = x := rfl
/-- The closest cut of a name within that of the servers: theirs. -/
theorem after_cut {put : Bool} {n q : ByteArray} {t' ttl now : Int} {all : Bool} {V : Bs → Int → Option En} (h : AfterV true put n q t' ttl now all V) (hp : put = true → 0 < ttl) (hw : withinB q.data.toList n.data.toList = true)
    (hno : ¬ (put = true ∧ t' = 2 ∧ foldB q.data.toList = foldB n.data.toList)) : ∃ up y, closeE V now (upsL q.data.toList) = some (up, y) ∧ sameB up n.data.toList = true := by
  obtain ⟨V1, h1, hV⟩ := h.eq
  obtain ⟨hnn, l, xs, un, hun, hV1⟩ := h1.yes rfl
  have hqn : isName q.data.toList = true := ((within_iff _ _).1 hw).1
  have hit : ∀ up : Bs, foldB up = foldB n.data.toList → hitE V now up = some ⟨n, 2, l, xs, 2, false, false, un⟩ := fun up hu => by
    have e1 : gets V ⟨up.toArray⟩ 2 2 now = some ⟨n, 2, l, xs, 2, false, false, un⟩ := by
      refine gets_first ?_
      rw [bs_ba, hV, if_neg (fun e => hno ⟨e.1, e.2.2.symm, by rw [← e.2.1, hu]⟩), hV1, if_pos ⟨hu, rfl⟩]
      unfold liveE
      dsimp only
      rw [if_pos ⟨hun, by omega⟩]
    unfold hitE
    rw [e1]
    rfl
  have miss : ∀ up : Bs, foldB up ≠ foldB n.data.toList → hitE V now up = none := fun up hu => by
    have hv1 : ∀ k, V1 (foldB up) k = none := fun k => by rw [hV1, if_neg (fun e => hu e.1)]
    have hg : gets V ⟨up.toArray⟩ 2 2 now = none ∨ gets V ⟨up.toArray⟩ 2 2 now = some (noE q t' ttl now all) := by
      have hk : ∀ k, V (foldB up) k = none ∨ V (foldB up) k = some (noE q t' ttl now all) := fun k => by
        rw [hV]
        split
        · exact .inr rfl
        · exact .inl (hv1 k)
      have hl : ∀ k, liveE (V (foldB up) k) 2 now = none ∨ liveE (V (foldB up) k) 2 now = some (noE q t' ttl now all) := fun k => by
        rcases hk k with e | e
        · rw [e]; exact .inl rfl
        · rw [e]
          unfold liveE
          dsimp only
          split
          · exact .inr rfl
          · exact .inl rfl
      rcases hl 2 with e | e
      · rw [gets_then (name := ⟨up.toArray⟩) e]
        exact hl 0
      · exact .inr (gets_first (name := ⟨up.toArray⟩) e)
    unfold hitE
    rcases hg with e | e
    · rw [e]
    · rw [e]; rfl
  -- the first name with that fold
  have key : ∀ L : List Bs, (∃ u ∈ L, foldB u = foldB n.data.toList) → ∃ up y, closeE V now L = some (up, y) ∧ foldB up = foldB n.data.toList ∧ up ∈ L := by
    intro L
    induction L with
    | nil => rintro ⟨u, hu, _⟩; cases hu
    | cons a L ih =>
      rintro ⟨u, hu, he⟩
      by_cases ha : foldB a = foldB n.data.toList
      · exact ⟨a, _, by unfold closeE; rw [hit a ha], ha, List.mem_cons_self ..⟩
      · have hL : ∃ u ∈ L, foldB u = foldB n.data.toList := by
          rcases List.mem_cons.1 hu with rfl | hu
          · exact absurd he ha
          · exact ⟨u, hu, he⟩
        obtain ⟨up, y, e1, e2, e3⟩ := ih hL
        exact ⟨up, y, by unfold closeE; rw [miss a ha]; exact e1, e2, List.mem_cons_of_mem _ e3⟩
  have hex : ∃ u ∈ upsL q.data.toList, foldB u = foldB n.data.toList := by
    obtain ⟨_, hz, hs⟩ := (within_iff _ _).1 hw
    obtain ⟨p, hp⟩ := hs
    have hle : p.length ≤ (labs q.data.toList).1.length := by
      have := congrArg List.length hp; simp at this; omega
    refine ⟨q.data.toList.drop (pos (labs q.data.toList).1 p.length), ?_, ?_⟩
    · rw [ups_yes hqn]
      exact List.mem_map.2 ⟨p.length, List.mem_range.2 (by omega), rfl⟩
    · rw [fold_eq_iff (drop_name hqn _) hz, drop_labs hqn, List.map_drop, ← hp, List.drop_left]
  obtain ⟨up, y, e1, e2, e3⟩ := key _ hex
  refine ⟨up, y, e1, ?_⟩
  rw [ups_yes hqn] at e3
  obtain ⟨k, _, rfl⟩ := List.mem_map.1 e3
  have hlen := congrArg List.length e2
  rw [foldB_length, foldB_length] at hlen
  unfold sameB
  rw [drop_name hqn, hnn, e2, decide_eq_true hlen]
  simp
end Go.Proofs.Ytfipacfompihkaa
