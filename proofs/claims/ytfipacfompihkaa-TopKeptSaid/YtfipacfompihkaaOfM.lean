/- 'm[k] = append(m[k], v)': an entry is taken, whether there is one or not, and stored to later. Plain: no program in sight. Conditions: none. Records in groups, as sets.Of keeps them: a map of slices and the order of its keys. Conditions: none. What sets.Of keeps of the records that came, and what it answers. Plain. Conditions: none. -/
import Derived.Test.YtfipacfompihkaaMapT
import Derived.Maps.Keyed
import Derived.MapKept
import Derived.Test.YtfipacfompihkaaCaC
import Derived.Test.YtfipacfompihkaaRR
import Derived.Test.YtfipacfompihkaaMsgSmall
import Derived.Test.YtfipacfompihkaaNear
import Derived.Test.YtfipacfompihkaaBuild
import Derived.Deep.DeepCutAuto
namespace Go.Proofs.Ytfipacfompihkaa
open Go.RowKit Go.Maps Go.ChangeMaps Go.MapKept

theorem find_born (l : List MapEntry) (h : (l.map (·.born)).Nodup) {j : Nat} {e : MapEntry} (hj : l[j]? = some e) : l.findIdx? (fun x => (x.born : Int) == (e.born : Int)) = some j := by
  obtain ⟨hjl, rfl⟩ := List.getElem?_eq_some_iff.1 hj
  rw [List.findIdx?_eq_some_iff_getElem]
  refine ⟨hjl, by simp, fun i hi => ?_⟩
  have hil : i < l.length := by omega
  have hne : (l.map (·.born))[i]'(by simpa using hil) ≠ (l.map (·.born))[j]'(by simpa using hjl) := fun e => by
    have := (List.getElem_inj h).1 e
    omega
  simp only [List.getElem_map] at hne
  simp only [Bool.not_eq_true, beq_eq_false_iff_ne, ne_eq]
  omega
section
variable {P : Program} {k : TypeId} {w w' : World} {b n : Nat} {f : Lit → Option Value}
/-- The store to the entry of a key that is there is the store at that key. -/
theorem entryStore_at {t e : TypeId} (K : Keyed P k) (ht : P.underlying t = some (.map k e)) {es : Array MapEntry} {clock : Nat} {U : World} (hb : U.heap[b]? = some (.map es clock)) (hst : Stamped es clock)
    {key : Value} {kl : Lit} (hkey : keyOf P k key = some kl) {j : Nat} {e0 : MapEntry} (h1 : (Instr.findKey k key es.toList).run P U = .ok (some (j, e0.val)) U) (h2 : es.toList[j]? = some e0) (h3 : e0.key = key) (val : Value) :
    (Instr.entryStore t (.map (some b)) (goInt e0.born) val).run P U = (Instr.mapUpdate t (.map (some b)) key val).run P U := by
  have hj : es[j]? = some e0 := by simpa using h2
  have hfi : es.findIdx? (fun x => (x.born : Int) == (e0.born : Int)) = some j := by
    rw [← find_born es.toList hst.2.1 h2]
    obtain ⟨l⟩ := es
    simp
  have hmo : (es.modify j fun x => { x with val := val }) = es.modify j fun x => { x with key := key, val := val } := by
    apply Array.ext_getElem?
    intro i
    rw [Array.getElem?_modify, Array.getElem?_modify]
    by_cases h : j = i
    · subst h
      simp only [if_true, hj, Option.map_some]
      rw [← h3]
    · simp [h]
  have e1 : (Instr.mapUpdate t (.map (some b)) key val).run P U = .ok () (setBlock U b (.map (es.modify j fun x => { x with key := key, val := val }) clock)) := by
    simp [Instr.mapUpdate, run_underlying ht, MapKept.run_getObj_map hb, K.check U false hkey, h1, hj, h3, K.stays U hkey, MapKept.run_setObj_map _ hb, Result.andThen, setBlock]
  rw [e1, ← hmo]
  simp [Instr.entryStore, MapKept.run_getObj_map hb, goInt, asInt, asIntOf, hfi, MapKept.run_setObj_map _ hb, Result.andThen, setBlock]
theorem MapV.entry {t e : TypeId} (h : MapV P k w b n f) (K : Keyed P k) (ht : P.underlying t = some (.map k e)) (hn : n + 1 < maxLen) {key : Value} {kl : Lit} (hkey : keyOf P k key = some kl) (hkl : WideAt.IsKeyLit kl) {z : Value} (hz : (zeroValue e).run P w = .ok z w) :
    ∃ w1 s, (Instr.mapEntry t (.map (some b)) key).run P w = .ok (.tuple #[(f kl).getD z, s]) w1 ∧ w.grownBy w1 (some b) ∧ (∀ a, w1.cell? a = w.cell? a) ∧ (∀ a, w1.frozen? a = w.frozen? a) ∧
      ∀ U, U.heap[b]? = w1.heap[b]? → ∀ val, ∃ U2, (Instr.entryStore t (.map (some b)) s val).run P U = .ok () U2 ∧ MapV P k U2 b (n + 1) (fun x => if x.sameKey kl then some val else f x) ∧ U.grownBy U2 (some b) ∧ (∀ a, U2.cell? a = U.cell? a) ∧ ∀ a, U2.frozen? a = U.frozen? a := by
  have hlook := h.lookOk K ht hz hkey
  obtain ⟨v0, hv0⟩ : ∃ v0, (f kl).getD z = v0 := ⟨_, rfl⟩
  obtain ⟨u1, hr1, hm1, hg1, hc1, hf1⟩ := h.store K ht (by omega) hkey hkl v0
  have hh := h
  obtain ⟨D, ⟨es, clock, hb, F, hs, hD⟩, h2⟩ := hh
  -- what follows once the entry is there
  have later : ∀ (es1 : Array MapEntry) (clock1 j : Nat) (e0 : MapEntry), u1.heap[b]? = some (.map es1 clock1) → Stamped es1 clock1 → (∀ W, (Instr.findKey k key es1.toList).run P W = .ok (some (j, e0.val)) W) → es1.toList[j]? = some e0 → e0.key = key →
      ∀ U, U.heap[b]? = u1.heap[b]? → ∀ val, ∃ U2, (Instr.entryStore t (.map (some b)) (goInt e0.born) val).run P U = .ok () U2 ∧ MapV P k U2 b (n + 1) (fun x => if x.sameKey kl then some val else f x) ∧ U.grownBy U2 (some b) ∧ (∀ a, U2.cell? a = U.cell? a) ∧ ∀ a, U2.frozen? a = U.frozen? a := by
    intro es1 clock1 j e0 hb1 hst hfind hej hek U hU val
    have hmU : MapV P k U b (n + 1) (fun x => if x.sameKey kl then some v0 else f x) := hm1.keep hU
    obtain ⟨U2, q1, q2, q3, q4, q5⟩ := hmU.store_there K ht hn hkey hkl (by rw [if_pos (WideAt.sameKey_self hkl)]; rfl) val
    refine ⟨U2, ?_, q2.congr fun x => ?_, q3, q4, q5⟩
    · rw [entryStore_at K ht (hU.trans hb1) hst hkey (hfind U) hej hek val]
      exact q1
    · by_cases hx : x.sameKey kl = true
      · rw [if_pos hx, if_pos hx]
      · rw [if_neg hx, if_neg hx, if_neg hx]
  rw [hv0]
  rcases K.find w hkey es.toList F.keys with ⟨k1, k2⟩ | ⟨j, e0, k1, k2, k3⟩
  · have hfn : v0 = z := by
      have h3 : (Instr.lookup t (.map (some b)) key true).run P w = .ok (.tuple #[z, .bool false]) w := by
        simp [Instr.lookup, run_underlying ht, MapKept.run_getObj_map hb, K.check w es.isEmpty hkey, k1, hz, Result.andThen]
      rw [hlook] at h3
      injection h3 with h3
      injection h3 with h3
      have h4 := congrArg (fun a : Array Value => a[0]?) h3
      simp at h4
      rw [← hv0, h4]
    have e1 : (Instr.mapUpdate t (.map (some b)) key v0).run P w = .ok () (setBlock w b (.map (es.push ⟨key, v0, clock⟩) (clock + 1))) := by
      simp [Instr.mapUpdate, run_underlying ht, MapKept.run_getObj_map hb, K.check w false hkey, k1, MapKept.run_setObj_map _ hb, Result.andThen, setBlock]
    rw [hr1] at e1
    injection e1 with _ e1
    have hb1 : u1.heap[b]? = some (.map (es.push ⟨key, v0, clock⟩) (clock + 1)) := by rw [e1]; exact heap_setBlock_same hb _
    have hfind : ∀ W, (Instr.findKey k key (es.push ⟨key, v0, clock⟩).toList).run P W = .ok (some (es.size, v0)) W := fun W => by
      have hkeys : ∀ x ∈ (es.push ⟨key, v0, clock⟩).toList, ∃ l, keyOf P k x.key = some l := fun x hx => by
        simp only [Array.toList_push, List.mem_append, List.mem_singleton] at hx
        rcases hx with hx | rfl
        · exact F.keys x hx
        · exact ⟨kl, hkey⟩
      rcases K.find W hkey (es.push ⟨key, v0, clock⟩).toList hkeys with ⟨_, q2⟩ | ⟨j, e0, q1, q2, q3⟩
      · exact absurd rfl (q2 ⟨key, v0, clock⟩ (by simp))
      · have hjl := (List.getElem?_eq_some_iff.1 q2).1
        simp at hjl
        by_cases hjs : j = es.size
        · subst hjs
          simp at q2
          subst q2
          exact q1
        · have hj2 : es.toList[j]? = some e0 := by
            rw [Array.toList_push, List.getElem?_append_left (by simp; omega)] at q2
            exact q2
          exact absurd q3 (k2 e0 (List.mem_of_getElem? hj2))
    refine ⟨u1, goInt clock, ?_, hg1, hc1, hf1, ?_⟩
    · rw [e1, hfn]
      simp [Instr.mapEntry, run_underlying ht, MapKept.run_getObj_map hb, K.check w false hkey, k1, hz, MapKept.run_setObj_map _ hb, Result.andThen, setBlock]
    · exact later _ _ es.size ⟨key, v0, clock⟩ hb1 (stamped_push F.stamped k2) hfind (by simp) rfl
  · have hj : es[j]? = some e0 := by simpa using k2
    have hfe : v0 = e0.val := by
      have h3 : (Instr.lookup t (.map (some b)) key true).run P w = .ok (.tuple #[e0.val, .bool true]) w := by
        simp [Instr.lookup, run_underlying ht, MapKept.run_getObj_map hb, K.check w es.isEmpty hkey, k1, Result.andThen]
      rw [hlook] at h3
      injection h3 with h3
      injection h3 with h3
      have h4 := congrArg (fun a : Array Value => a[0]?) h3
      simp at h4
      rw [← hv0, h4]
    have hmo : (es.modify j fun x => { x with key := key, val := v0 }) = es := by
      apply Array.ext_getElem?
      intro i
      rw [Array.getElem?_modify]
      by_cases h : j = i
      · subst h
        rw [if_pos rfl, hj, hfe, ← k3]
        rfl
      · simp [h]
    have hmo2 : (es.modify j fun x => { x with key := key }) = es := by
      apply Array.ext_getElem?
      intro i
      rw [Array.getElem?_modify]
      by_cases h : j = i
      · subst h
        rw [if_pos rfl, hj, ← k3]
        rfl
      · simp [h]
    have e1 : (Instr.mapUpdate t (.map (some b)) key v0).run P w = .ok () (setBlock w b (.map (es.modify j fun x => { x with key := key, val := v0 }) clock)) := by
      simp [Instr.mapUpdate, run_underlying ht, MapKept.run_getObj_map hb, K.check w false hkey, k1, hj, k3, K.stays w hkey, MapKept.run_setObj_map _ hb, Result.andThen, setBlock]
    rw [hr1, hmo] at e1
    injection e1 with _ e1
    have hb1 : u1.heap[b]? = some (.map es clock) := by rw [e1]; exact heap_setBlock_same hb _
    have hfind : ∀ W, (Instr.findKey k key es.toList).run P W = .ok (some (j, e0.val)) W := fun W => by
      rcases K.find W hkey es.toList F.keys with ⟨_, q2⟩ | ⟨j', e', q1, q2, q3⟩
      · exact absurd k3 (q2 e0 (List.mem_of_getElem? k2))
      · have hkk : j' = j := by
          obtain ⟨a1, a2⟩ := List.getElem?_eq_some_iff.1 q2
          obtain ⟨c1, c2⟩ := List.getElem?_eq_some_iff.1 k2
          have hnd := F.stamped.2.2
          have : (es.toList.map (·.key))[j']'(by simpa using a1) = (es.toList.map (·.key))[j]'(by simpa using c1) := by
            simp only [List.getElem_map, a2, c2, q3, k3]
          exact (List.getElem_inj hnd).1 this
        subst hkk
        rw [k2] at q2
        injection q2 with q2
        subst q2
        exact q1
    refine ⟨u1, goInt e0.born, ?_, hg1, hc1, hf1, later es clock j e0 hb1 F.stamped hfind k2 k3⟩
    rw [e1, hfe]
    simp [Instr.mapEntry, run_underlying ht, MapKept.run_getObj_map hb, K.check w false hkey, k1, hj, k3, K.stays w hkey, hmo2, MapKept.run_setObj_map _ hb, Result.andThen, setBlock]
end
end Go.Proofs.Ytfipacfompihkaa

namespace Go.Proofs.Ytfipacfompihkaa
open Go.RowKit Go.Lib

/-! ### Keys -/
theorem pls_keyType : Try.prog.keyType 134 = true := by kernel_rfl
theorem pls_keyTypeAt : Try.prog.keyTypeAt 3 134 = true := by kernel_rfl
theorem pls_cells : Try.prog.cellsOf 134 = 2 := by kernel_rfl
theorem pls_keyed : Maps.Keyed Try.prog 134 :=
  Maps.Keyed.of_law (deep_law_laid laidOutC (m := 3) (by decide) (of_decide_eq_true (by kernel_rfl)) pls_keyTypeAt (by kernel_rfl))
theorem keyOf_pls (s : ByteArray) (k : Int) (hs : s.size ≤ maxLen) (hk : 0 ≤ k ∧ k ≤ 65535) : keyOf Try.prog 134 (.agg #[.string s, .int .u16 k]) = some (plK s.data.toList k) := by
  obtain ⟨m, hm⟩ := types_manyC
  have h1 := wf16C hk
  unfold keyOf plK
  rw [Try.underlying134, pls_keyType, hm]
  simp [Value.formed, Try.underlying134, pls_cells, Program.keyLits, str_cellsC, rt_cellsC, Try.underlying9, Try.underlying44, Value.cells, h1, hs]

/-- A group: its records and where they lie. -/
structure Gv where
  rs : List RRec
  A : Option Addr
  c : Nat
def Gv.val (g : Gv) : Value := .slice g.A g.rs.length g.c
def plVs (p : ByteArray × Int) : List Value := [.string p.1, .int .u16 p.2]
theorem plVs_two (p : ByteArray × Int) : (plVs p).length = 2 := rfl
structure GS (w : World) (mb bm bo base m : Nat) (Ao : Option Addr) (co : Nat) (P : List (ByteArray × Int)) (G : Bs → Int → Option Gv) : Prop where
  bm_ : Blk w bm 128 #[.map (some mb)]
  bo_ : Blk w bo 129 #[.slice Ao P.length co]
  mp : ∃ F, MapV Try.prog 134 w mb m F ∧ ∀ (s : Bs) (k : Int), s.length ≤ maxLen → (0 ≤ k ∧ k ≤ 65535) → F (plK s k) = (G s k).map Gv.val
  os : Sl w 2 (.slice Ao P.length co) P.length (flatV plVs P)
  oo : ∀ q, (Value.slice Ao P.length co).ownBlock = some q → base ≤ q ∧ q ≠ mb ∧ q ≠ bm ∧ q ≠ bo
  gs : ∀ s k g, G s k = some g → Sl w 5 g.val g.rs.length (flatV RRec.vs g.rs) ∧ ∀ q, g.val.ownBlock = some q → base ≤ q ∧ q ≠ mb ∧ q ≠ bm ∧ q ≠ bo ∧ (Value.slice Ao P.length co).ownBlock ≠ some q
  pw : ∀ s k s' k' g g' q, G s k = some g → G s' k' = some g' → g.val.ownBlock = some q → g'.val.ownBlock = some q → s = s' ∧ k = k'
  ne : (mb ≠ bm ∧ mb ≠ bo ∧ bm ≠ bo) ∧ mb < base ∧ bm < base ∧ bo < base
section
variable {w w' w1 w2 w3 : World} {mb bm bo base m : Nat} {Ao : Option Addr} {co : Nat} {P : List (ByteArray × Int)} {G : Bs → Int → Option Gv}
theorem GS.mlt (h : GS w mb bm bo base m Ao co P G) : mb < w.heap.size := by obtain ⟨F, h1, _⟩ := h.mp; exact h1.lt
theorem GS.low (h : GS w mb bm bo base m Ao co P G) (hb : Below w.heap.size w w') : GS w' mb bm bo base m Ao co P G := by
  obtain ⟨F, m1, m2⟩ := h.mp
  exact ⟨h.bm_.below hb h.bm_.lt, h.bo_.below hb h.bo_.lt, ⟨F, m1.below hb m1.lt, m2⟩, h.os.below hb h.os.lt, h.oo, fun s k g hg => ⟨(h.gs s k g hg).1.below hb (h.gs s k g hg).1.lt, (h.gs s k g hg).2⟩, h.pw, h.ne⟩
theorem GS.keep (h : GS w mb bm bo base m Ao co P G) (hs : w.heap.size ≤ w'.heap.size) (hk : ∀ i, i < w.heap.size → (i = mb ∨ i = bm ∨ i = bo ∨ base ≤ i) → w'.heap[i]? = w.heap[i]?) : GS w' mb bm bo base m Ao co P G := by
  obtain ⟨F, m1, m2⟩ := h.mp
  exact ⟨(hk bm h.bm_.lt (.inr (.inl rfl))).trans h.bm_, (hk bo h.bo_.lt (.inr (.inr (.inl rfl)))).trans h.bo_, ⟨F, m1.keep (hk mb m1.lt (.inl rfl)), m2⟩, h.os.keep hs fun q hq => hk q (h.os.lt q hq) (.inr (.inr (.inr (h.oo q hq).1))), h.oo, fun s k g hg => ⟨(h.gs s k g hg).1.keep hs fun q hq => hk q ((h.gs s k g hg).1.lt q hq) (.inr (.inr (.inr ((h.gs s k g hg).2 q hq).1))), (h.gs s k g hg).2⟩, h.pw, h.ne⟩
theorem GS.more (h : GS w mb bm bo base m Ao co P G) {m' : Nat} (hm : m ≤ m') : GS w mb bm bo base m' Ao co P G := by
  obtain ⟨F, m1, m2⟩ := h.mp
  exact ⟨h.bm_, h.bo_, ⟨F, m1.mono hm, m2⟩, h.os, h.oo, h.gs, h.pw, h.ne⟩
/-- One key more in the order. -/
theorem GS.order (h : GS w mb bm bo base m Ao co P G) (hbase : base ≤ w.heap.size) (p : ByteArray × Int) (o : Obj) {A' : Option Addr} {c' : Nat} (hs : Sl w2 2 (.slice A' (P.length + 1) c') (P.length + 1) (flatV plVs P ++ plVs p))
    (hg : (w.alloc o).grownBy w2 (Value.slice Ao P.length co).ownBlock) (hv : (Value.slice A' (P.length + 1) c').ownBlock = (Value.slice Ao P.length co).ownBlock ∨ (Value.slice A' (P.length + 1) c').ownBlock = some (w.alloc o).heap.size) :
    GS (w2.setCell ⟨bo, 0, none⟩ (.slice A' (P.length + 1) c')) mb bm bo base m A' c' (P ++ [p]) G ∧ (∀ q, q < base → q ≠ bo → (w2.setCell ⟨bo, 0, none⟩ (.slice A' (P.length + 1) c')).heap[q]? = w.heap[q]?) ∧ w.heap.size ≤ w2.heap.size := by
  have hz : w.heap.size < w2.heap.size := by have := hg.size; simp at this; omega
  have hown : ∀ q, (Value.slice A' (P.length + 1) c').ownBlock = some q → (base ≤ q ∧ q ≠ mb ∧ q ≠ bm ∧ q ≠ bo) ∧ ((Value.slice Ao P.length co).ownBlock = some q ∨ w.heap.size < q) := fun q hq => by
    rcases hv with e | e
    · rw [e] at hq; exact ⟨h.oo q hq, .inl hq⟩
    · rw [e] at hq
      injection hq with hq
      have h1 := h.mlt; have h2 := h.bm_.lt; have h3 := h.bo_.lt
      simp at hq
      exact ⟨⟨by omega, by omega, by omega, by omega⟩, .inr (by omega)⟩
  have kq : ∀ q, q < w.heap.size → some q ≠ (Value.slice Ao P.length co).ownBlock → q ≠ bo → (w2.setCell ⟨bo, 0, none⟩ (.slice A' (P.length + 1) c')).heap[q]? = w.heap[q]? := fun q h1 h2 h3 =>
    (Below.heap_setCell _ _ _ _ h3).trans ((hg.block q (by simp; omega) h2).trans (Below.heap_alloc w o q h1))
  have hnw : ∀ q, (q = mb ∨ q = bm ∨ q = bo) → some q ≠ (Value.slice Ao P.length co).ownBlock := fun q hq e => by
    have := h.oo q e.symm
    rcases hq with rfl | rfl | rfl <;> omega
  obtain ⟨F, m1, m2⟩ := h.mp
  refine ⟨⟨?_, ?_, ⟨F, m1.keep (kq mb m1.lt (hnw mb (.inl rfl)) h.ne.1.2.1), m2⟩, ?_, fun q hq => by rw [List.length_append] at hq; exact (hown q hq).1, fun s k g hgg => ⟨?_, fun q hq => ?_⟩, h.pw, h.ne⟩, fun q h1 h2 => ?_, by omega⟩
  · exact (kq bm h.bm_.lt (hnw bm (.inr (.inl rfl))) h.ne.1.2.2).trans h.bm_
  · have hb2 : Blk w2 bo 129 #[.slice Ao P.length co] := (hg.block bo (by have := h.bo_.lt; simp; omega) (hnw bo (.inr (.inr rfl)))).trans ((Below.heap_alloc w o bo h.bo_.lt).trans h.bo_)
    have := hb2.set_ 0 (.slice A' (P.length + 1) c')
    rw [List.length_append]
    simpa using this
  · rw [List.length_append, flatV_append, flatV_one]
    exact hs.far (p := ⟨bo, 0, none⟩) (fun q hq => (hown q hq).1.2.2.2) _
  · have h1 := (h.gs s k g hgg).1
    exact h1.keep (by have := hz; simp [World.setCell]; omega) fun q hq => kq q (h1.lt q hq) (fun e => ((h.gs s k g hgg).2 q hq).2.2.2.2 e.symm) ((h.gs s k g hgg).2 q hq).2.2.2.1
  · have h1 := (h.gs s k g hgg).2 q hq
    refine ⟨h1.1, h1.2.1, h1.2.2.1, h1.2.2.2.1, fun e => ?_⟩
    rw [List.length_append] at e
    rcases (hown q e).2 with h2 | h2
    · exact h1.2.2.2.2 h2
    · have := (h.gs s k g hgg).1.lt q hq; omega
  · exact kq q (by omega) (fun e => by have := (h.oo q e.symm).1; omega) h2
def oldR (o : Option Gv) : List RRec := (o.map Gv.rs).getD []
def oldV (o : Option Gv) : Value := (o.map Gv.val).getD (.slice none 0 0)
/-- One record more in its group. -/
theorem GS.entry (h : GS w mb bm bo base m Ao co P G) (hbase : base ≤ w.heap.size) (s : Bs) (k : Int) (hsl : s.length ≤ maxLen) (hk : 0 ≤ k ∧ k ≤ 65535) (r : RRec) (o : Obj) {A' : Option Addr} {c' : Nat} {F : Lit → Option Value}
    (hF : ∀ (s : Bs) (k : Int), s.length ≤ maxLen → (0 ≤ k ∧ k ≤ 65535) → F (plK s k) = (G s k).map Gv.val)
    (hg1 : (w.alloc o).grownBy w1 (some mb)) (hs2 : Sl w2 5 (.slice A' ((oldR (G s k)).length + 1) c') ((oldR (G s k)).length + 1) (flatV RRec.vs (oldR (G s k)) ++ flatV RRec.vs [r])) (hg2 : w1.grownBy w2 (oldV (G s k)).ownBlock)
    (hv2 : (Value.slice A' ((oldR (G s k)).length + 1) c').ownBlock = (oldV (G s k)).ownBlock ∨ (Value.slice A' ((oldR (G s k)).length + 1) c').ownBlock = some w1.heap.size)
    (hM : MapV Try.prog 134 w3 mb (m + 1) (fun x => if x.sameKey (plK s k) then some (.slice A' ((oldR (G s k)).length + 1) c') else F x)) (hg3 : w2.grownBy w3 (some mb)) :
    GS w3 mb bm bo base (m + 1) Ao co P (fun s' k' => if s' = s ∧ k' = k then some ⟨oldR (G s k) ++ [r], A', c'⟩ else G s' k') ∧ (∀ q, q < base → q ≠ mb → w3.heap[q]? = w.heap[q]?) ∧ w.heap.size ≤ w3.heap.size := by
  have hz1 : w.heap.size < w1.heap.size := by have := hg1.size; simp at this; omega
  have hz2 := hg2.size
  have hz3 := hg3.size
  have hov : ∀ q, (oldV (G s k)).ownBlock = some q → ∃ g, G s k = some g ∧ g.val.ownBlock = some q := fun q hq => by
    unfold oldV at hq
    cases hgg : G s k with
    | none => rw [hgg] at hq; cases hq
    | some g => rw [hgg] at hq; exact ⟨g, rfl, hq⟩
  have hown : ∀ q, (Value.slice A' ((oldR (G s k)).length + 1) c').ownBlock = some q → (oldV (G s k)).ownBlock = some q ∨ w.heap.size < q := fun q hq => by
    rcases hv2 with e | e
    · rw [e] at hq; exact .inl hq
    · rw [e] at hq; injection hq with hq; exact .inr (by omega)
  have kq : ∀ q, q < w.heap.size → q ≠ mb → some q ≠ (oldV (G s k)).ownBlock → w3.heap[q]? = w.heap[q]? := fun q h1 h2 h3 =>
    (hg3.block q (by omega) (fun e => h2 (by injection e))).trans ((hg2.block q (by omega) h3).trans ((hg1.block q (by simp; omega) (fun e => h2 (by injection e))).trans (Below.heap_alloc w o q h1)))
  have hno : ∀ q, (q = bm ∨ q = bo ∨ (Value.slice Ao P.length co).ownBlock = some q ∨ q < base) → some q ≠ (oldV (G s k)).ownBlock := fun q hq e => by
    obtain ⟨g, hg, hgq⟩ := hov q e.symm
    have := (h.gs s k g hg).2 q hgq
    rcases hq with rfl | rfl | hq | hq
    · exact this.2.2.1 rfl
    · exact this.2.2.2.1 rfl
    · exact this.2.2.2.2 hq
    · omega
  refine ⟨⟨?_, ?_, ⟨_, hM, fun s' k' hs' hk' => ?_⟩, ?_, h.oo, fun s' k' g hg => ?_, fun s1 k1 s2 k2 g1 g2 q e1 e2 q1 q2 => ?_, h.ne⟩, fun q h1 h2 => kq q (by omega) h2 (hno q (.inr (.inr (.inr h1)))), by omega⟩
  · exact (kq bm h.bm_.lt (fun e => h.ne.1.1 e.symm) (hno bm (.inl rfl))).trans h.bm_
  · exact (kq bo h.bo_.lt (fun e => h.ne.1.2.1 e.symm) (hno bo (.inr (.inl rfl)))).trans h.bo_
  · by_cases he : s' = s ∧ k' = k
    · obtain ⟨rfl, rfl⟩ := he
      rw [if_pos (WideAt.sameKey_self (plK_isKey s' k')), if_pos ⟨rfl, rfl⟩]
      simp [Gv.val]
    · rw [if_neg he, if_neg (fun hsame => ?_), hF s' k' hs' hk']
      by_cases hkk : plK s' k' = plK s k
      · exact he (plK_inj hs' hsl hk' hk hkk)
      · rw [Maps.sameKey_ne hkk] at hsame; cases hsame
  · exact h.os.keep (by omega) fun q hq => kq q (h.os.lt q hq) (h.oo q hq).2.1 (hno q (.inr (.inr (.inl hq))))
  · by_cases he : s' = s ∧ k' = k
    · rw [if_pos he] at hg
      injection hg with hg
      subst hg
      have hlen : (oldR (G s k) ++ [r]).length = (oldR (G s k)).length + 1 := by simp
      have hownOk : ∀ q, (Value.slice A' ((oldR (G s k)).length + 1) c').ownBlock = some q → base ≤ q ∧ q ≠ mb ∧ q ≠ bm ∧ q ≠ bo ∧ (Value.slice Ao P.length co).ownBlock ≠ some q := fun q hq => by
        rcases hown q hq with h1 | h1
        · obtain ⟨g, hg, hgq⟩ := hov q h1
          exact (h.gs s k g hg).2 q hgq
        · have a1 := h.mlt; have a2 := h.bm_.lt; have a3 := h.bo_.lt
          exact ⟨by omega, by omega, by omega, by omega, fun e => by have := h.os.lt q e; omega⟩
      refine ⟨?_, fun q hq => ?_⟩
      · show Sl w3 5 (.slice A' (oldR (G s k) ++ [r]).length c') (oldR (G s k) ++ [r]).length (flatV RRec.vs (oldR (G s k) ++ [r]))
        rw [hlen, flatV_append]
        exact hs2.keep (by omega) fun q hq => hg3.block q (hs2.lt q hq) (fun e => (hownOk q hq).2.1 (by injection e))
      · have hq' : (Value.slice A' (oldR (G s k) ++ [r]).length c').ownBlock = some q := hq
        rw [hlen] at hq'
        exact hownOk q hq'
    · rw [if_neg he] at hg
      have h1 := h.gs s' k' g hg
      refine ⟨h1.1.keep (by omega) fun q hq => kq q (h1.1.lt q hq) (h1.2 q hq).2.1 (fun e => ?_), h1.2⟩
      obtain ⟨g', hg', hgq'⟩ := hov q e.symm
      exact he (h.pw s' k' s k g g' q hg hg' hq hgq')
  · have hlen : (oldR (G s k) ++ [r]).length = (oldR (G s k)).length + 1 := by simp
    have key : ∀ s' k' g q, ¬ (s' = s ∧ k' = k) → G s' k' = some g → g.val.ownBlock = some q → (Value.slice A' ((oldR (G s k)).length + 1) c').ownBlock = some q → False := fun s' k' g q hne hg hq hq' => by
      rcases hown q hq' with h1 | h1
      · obtain ⟨g', hg', hgq'⟩ := hov q h1
        exact hne (h.pw s' k' s k g g' q hg hg' hq hgq')
      · have := (h.gs s' k' g hg).1.lt q hq; omega
    by_cases h1 : s1 = s ∧ k1 = k
    · by_cases h2 : s2 = s ∧ k2 = k
      · exact ⟨h1.1.trans h2.1.symm, h1.2.trans h2.2.symm⟩
      · rw [if_pos h1] at e1
        rw [if_neg h2] at e2
        injection e1 with e1
        subst e1
        have q1' : (Value.slice A' (oldR (G s k) ++ [r]).length c').ownBlock = some q := q1
        rw [hlen] at q1'
        exact (key s2 k2 g2 q h2 e2 q2 q1').elim
    · rw [if_neg h1] at e1
      by_cases h2 : s2 = s ∧ k2 = k
      · rw [if_pos h2] at e2
        injection e2 with e2
        subst e2
        have q2' : (Value.slice A' (oldR (G s k) ++ [r]).length c').ownBlock = some q := q2
        rw [hlen] at q2'
        exact (key s1 k1 g1 q h1 e1 q1 q2').elim
      · rw [if_neg h2] at e2
        exact h.pw s1 k1 s2 k2 g1 g2 q e1 e2 q1 q2
end
end Go.Proofs.Ytfipacfompihkaa

namespace Go.Proofs.Ytfipacfompihkaa
open Go.RowKit Go.Lib

/-- What the groups are of the records that came. -/
structure OfInv (pre : List RRec) (P : List (ByteArray × Int)) (G : Bs → Int → Option Gv) : Prop where
  g : ∀ s k g, G s k = some g → g.rs ≠ [] ∧ (∀ r ∈ g.rs, r ∈ pre ∧ foldB r.nb = s ∧ r.t = k) ∧ g.rs.length ≤ pre.length
  p : ∀ p ∈ P, ∃ g, G p.1.data.toList p.2 = some g
  q : ∀ s k g, G s k = some g → k ≠ 41
  d : P.Pairwise fun a b => ¬ (a.1.data.toList = b.1.data.toList ∧ a.2 = b.2)
  l : P.length ≤ pre.length
theorem OfInv.skip {pre : List RRec} {P : List (ByteArray × Int)} {G : Bs → Int → Option Gv} (h : OfInv pre P G) (x : RRec) : OfInv (pre ++ [x]) P G :=
  ⟨fun s k g hg => ⟨(h.g s k g hg).1, fun r hr => ⟨List.mem_append_left _ ((h.g s k g hg).2.1 r hr).1, ((h.g s k g hg).2.1 r hr).2⟩, by have := (h.g s k g hg).2.2; simp; omega⟩, h.p, h.q, h.d, by have := h.l; simp; omega⟩
theorem oldR_some {o : Option Gv} {g : Gv} (h : o = some g) : oldR o = g.rs := by rw [h]; rfl
theorem oldR_len {pre : List RRec} {P : List (ByteArray × Int)} {G : Bs → Int → Option Gv} (h : OfInv pre P G) (s : Bs) (k : Int) : (oldR (G s k)).length ≤ pre.length := by
  cases hg : G s k with
  | none => exact Nat.zero_le _
  | some g => exact (h.g s k g hg).2.2
theorem OfInv.step {pre : List RRec} {P P' : List (ByteArray × Int)} {G : Bs → Int → Option Gv} (h : OfInv pre P G) (x : RRec) (h41 : x.t ≠ 41) (fn : ByteArray) (hfn : fn.data.toList = foldB x.nb) {A' : Option Addr} {c' : Nat}
    (hP : (∃ g, G fn.data.toList x.t = some g) ∧ P' = P ∨ G fn.data.toList x.t = none ∧ P' = P ++ [(fn, x.t)]) :
    OfInv (pre ++ [x]) P' (fun s' k' => if s' = fn.data.toList ∧ k' = x.t then some ⟨oldR (G fn.data.toList x.t) ++ [x], A', c'⟩ else G s' k') := by
  refine ⟨fun s k g hg => ?_, fun p hp => ?_, fun s k g hg => ?_, ?_, ?_⟩
  · by_cases he : s = fn.data.toList ∧ k = x.t
    · rw [if_pos he] at hg
      injection hg with hg
      subst hg
      refine ⟨by simp, fun r hr => ?_, ?_⟩
      · rcases List.mem_append.1 hr with hr | hr
        · cases hgg : G fn.data.toList x.t with
          | none => rw [hgg] at hr; simp [oldR] at hr
          | some g =>
            rw [oldR_some hgg] at hr
            have := (h.g _ _ g hgg).2.1 r hr
            exact ⟨List.mem_append_left _ this.1, by rw [he.1]; exact this.2.1, by rw [he.2]; exact this.2.2⟩
        · rw [List.mem_singleton.1 hr]
          exact ⟨by simp, by rw [he.1, hfn], he.2.symm⟩
      · cases hgg : G fn.data.toList x.t with
        | none => simp [oldR]
        | some g =>
          have := (h.g _ _ g hgg).2.2
          show (g.rs ++ [x]).length ≤ _
          simp; omega
    · rw [if_neg he] at hg
      have := h.g s k g hg
      exact ⟨this.1, fun r hr => ⟨List.mem_append_left _ (this.2.1 r hr).1, (this.2.1 r hr).2⟩, by have := this.2.2; simp; omega⟩
  · by_cases he : p.1.data.toList = fn.data.toList ∧ p.2 = x.t
    · exact ⟨_, by rw [if_pos he]⟩
    · rw [if_neg he]
      rcases hP with ⟨_, rfl⟩ | ⟨_, rfl⟩
      · exact h.p p hp
      · rcases List.mem_append.1 hp with hp | hp
        · exact h.p p hp
        · rw [List.mem_singleton.1 hp] at he
          exact absurd ⟨rfl, rfl⟩ he
  · by_cases he : s = fn.data.toList ∧ k = x.t
    · rw [he.2]; exact h41
    · rw [if_neg he] at hg
      exact h.q s k g hg
  · rcases hP with ⟨_, rfl⟩ | ⟨hno, rfl⟩
    · exact h.d
    · refine List.pairwise_append.2 ⟨h.d, List.pairwise_singleton _ _, fun a ha b hb hab => ?_⟩
      rw [List.mem_singleton.1 hb] at hab
      obtain ⟨g, hg⟩ := h.p a ha
      rw [hab.1, hab.2, hno] at hg
      cases hg
  · rcases hP with ⟨_, rfl⟩ | ⟨_, rfl⟩
    · have := h.l; simp; omega
    · have := h.l; simp; omega
theorem sl_rowO (w : World) (t : TypeId) (cs : List Value) : Sl (w.alloc (.cells cs.toArray t)) cs.length (.slice (some ⟨w.heap.size, 0, none⟩) 1 1) 1 cs := by
  have B := Blk.new w t cs.toArray
  refine ⟨by simp, .inr ⟨w.heap.size, 1, rfl, by simp, Nat.le_refl _, by unfold maxLen; omega, fun j hj => ⟨?_, B.frozen j⟩, fun j u hu => ?_⟩⟩
  · rw [B.cell j]
    rw [Nat.one_mul] at hj
    simp [hj]
  · rw [B.cell j]
    simpa using hu
set_option maxRecDepth 100000 in
theorem zero_rrs (w : World) : (zeroValue 41).run Try.prog w = .ok (.slice none 0 0) w := by rfl
theorem info_pls : (Try.prog.info? 134).map (fun i => (i.zero, i.size, i.bytes)) = some (some (.agg #[.string ⟨#[]⟩, .int .u16 0]), 2, 24) := by kernel_rfl
theorem old_shape {w : World} {mb bm bo base m : Nat} {Ao : Option Addr} {co : Nat} {P : List (ByteArray × Int)} {G : Bs → Int → Option Gv} (h : GS w mb bm bo base m Ao co P G) (s : Bs) (k : Int) :
    ∃ Ag cg, oldV (G s k) = .slice Ag (oldR (G s k)).length cg ∧ Sl w 5 (.slice Ag (oldR (G s k)).length cg) (oldR (G s k)).length (flatV RRec.vs (oldR (G s k))) ∧ ∀ q, (Value.slice Ag (oldR (G s k)).length cg).ownBlock = some q → base ≤ q ∧ q ≠ mb := by
  cases hg : G s k with
  | none => exact ⟨none, 0, rfl, Sl.nil _ _, fun q hq => by cases hq⟩
  | some g => exact ⟨g.A, g.c, rfl, (h.gs s k g hg).1, fun q hq => ⟨((h.gs s k g hg).2 q hq).1, ((h.gs s k g hg).2 q hq).2.1⟩⟩
/-- What the lookup of a key gives. -/
theorem of_look {w : World} {mb bm bo base m : Nat} {Ao : Option Addr} {co : Nat} {P : List (ByteArray × Int)} {G : Bs → Int → Option Gv} (h : GS w mb bm bo base m Ao co P G) (fn : ByteArray) (k : Int) (hf : fn.size ≤ maxLen) (hk : 0 ≤ k ∧ k ≤ 65535) :
    (Instr.lookup 128 (.map (some mb)) (.agg #[.string fn, .int .u16 k]) false).run Try.prog w = .ok (oldV (G fn.data.toList k)) w := by
  obtain ⟨F, m1, m2⟩ := h.mp
  have := m1.look pls_keyed Try.underlying128 (zero_rrs w) (keyOf_pls fn k hf hk)
  rw [m2 _ _ hf hk] at this
  exact this
/-- One record more: the entry, the append, the store. -/
theorem of_nine {w : World} {mb bm bo base m : Nat} {Ao : Option Addr} {co : Nat} {P : List (ByteArray × Int)} {G : Bs → Int → Option Gv} (h : GS w mb bm bo base m Ao co P G) (hbase : base ≤ w.heap.size) (hm : m + 1 < maxLen) (fn : ByteArray) (x : RRec) (hf : fn.size ≤ maxLen) (hk : 0 ≤ x.t ∧ x.t ≤ 65535) :
    ∃ w1 s Ag cg, (Instr.mapEntry 128 (.map (some mb)) (.agg #[.string fn, .int .u16 x.t])).run Try.prog (w.alloc (.cells #[.string x.n, .int .u16 x.t, .int .u16 x.c, .int .u32 x.l, .string x.d] 77)) = .ok (.tuple #[.slice Ag (oldR (G fn.data.toList x.t)).length cg, s]) w1 ∧
      Sl w1 5 (.slice Ag (oldR (G fn.data.toList x.t)).length cg) (oldR (G fn.data.toList x.t)).length (flatV RRec.vs (oldR (G fn.data.toList x.t))) ∧ Src Try.prog 5 41 (.slice (some ⟨w.heap.size, 0, none⟩) 1 1) 1 (flatV RRec.vs [x]) w1 ∧
      ∀ A' c' w2, Sl w2 5 (.slice A' ((oldR (G fn.data.toList x.t)).length + 1) c') ((oldR (G fn.data.toList x.t)).length + 1) (flatV RRec.vs (oldR (G fn.data.toList x.t)) ++ flatV RRec.vs [x]) → w1.grownBy w2 (Value.slice Ag (oldR (G fn.data.toList x.t)).length cg).ownBlock →
        ((Value.slice A' ((oldR (G fn.data.toList x.t)).length + 1) c').ownBlock = (Value.slice Ag (oldR (G fn.data.toList x.t)).length cg).ownBlock ∨ (Value.slice A' ((oldR (G fn.data.toList x.t)).length + 1) c').ownBlock = some w1.heap.size) →
        ∃ w3, (Instr.entryStore 128 (.map (some mb)) s (.slice A' ((oldR (G fn.data.toList x.t)).length + 1) c')).run Try.prog w2 = .ok () w3 ∧
          GS w3 mb bm bo base (m + 1) Ao co P (fun s' k' => if s' = fn.data.toList ∧ k' = x.t then some ⟨oldR (G fn.data.toList x.t) ++ [x], A', c'⟩ else G s' k') ∧ (∀ q, q < base → q ≠ mb → w3.heap[q]? = w.heap[q]?) ∧ w.heap.size ≤ w3.heap.size ∧
          ∀ B v, Below B v w → B ≤ mb → B ≤ base → Below B v w3 := by
  obtain ⟨F, m1, m2⟩ := h.mp
  obtain ⟨Ag, cg, hov, hsl, hown⟩ := old_shape h fn.data.toList x.t
  obtain ⟨w1, s, r1, g1, c1, f1, hU⟩ := (m1.alloc (.cells #[.string x.n, .int .u16 x.t, .int .u16 x.c, .int .u32 x.l, .string x.d] 77)).entry pls_keyed Try.underlying128 hm (keyOf_pls fn x.t hf hk) (plK_isKey _ _) (zero_rrs _)
  rw [m2 _ _ hf hk] at r1
  have e1 : ((G fn.data.toList x.t).map Gv.val).getD (.slice none 0 0) = .slice Ag (oldR (G fn.data.toList x.t)).length cg := hov
  rw [e1] at r1
  have hmb := m1.lt
  refine ⟨w1, s, Ag, cg, r1, (hsl.alloc (.cells #[.string x.n, .int .u16 x.t, .int .u16 x.c, .int .u32 x.l, .string x.d] 77)).keep g1.size (fun q hq => g1.block q ((hsl.alloc _).lt q hq) (fun e => (hown q hq).2 (by injection e))), ?_, fun A' c' w2 hs2 hg2 hv2 => ?_⟩
  · exact Src.ofSlice _ Try.underlying41 ⟨w.heap.size, 0, none⟩ 1 1 _ rfl (fun j y hy => by
      rw [c1, add_lit', Nat.zero_add, World.cell?_alloc_new]
      rw [flatV_one] at hy
      rw [← hy, RRec.vs]
      simp) (rr_one _)
  · have hmb2 : w2.heap[mb]? = w1.heap[mb]? := hg2.block mb (by have := g1.size; simp at this; omega) (fun e => (hown mb e.symm).2 rfl)
    obtain ⟨w3, q1, q2, q3, _, _⟩ := hU w2 hmb2 (.slice A' ((oldR (G fn.data.toList x.t)).length + 1) c')
    have hmeq : (plK fn.data.toList x.t) = plK fn.data.toList x.t := rfl
    obtain ⟨k1, k2, k3⟩ := h.entry hbase fn.data.toList x.t hf hk x _ m2 g1 hs2 (by rw [hov]; exact hg2) (by rw [hov]; exact hv2) q2 q3
    refine ⟨w3, q1, k1, k2, k3, fun B v hb hB hB2 => ?_⟩
    have z1 := g1.size
    have z2 := hg2.size
    simp at z1
    have b1 := hb.alloc (show B ≤ w.heap.size by omega) (.cells #[.string x.n, .int .u16 x.t, .int .u16 x.c, .int .u32 x.l, .string x.d] 77)
    have b2 := b1.grown g1 (by simp; omega) (fun g hg => by injection hg with hg; omega)
    have b3 := b2.grown hg2 (by omega) (fun g hg => by have := (hown g hg).1; omega)
    exact b3.grown q3 (by omega) (fun g hg => by injection hg with hg; omega)
/-- One key more in the order: the append and the store. -/
theorem of_eight {w : World} {mb bm bo base m : Nat} {Ao : Option Addr} {co : Nat} {P : List (ByteArray × Int)} {G : Bs → Int → Option Gv} (h : GS w mb bm bo base m Ao co P G) (hbase : base ≤ w.heap.size) (p : ByteArray × Int) :
    Sl (w.alloc (.cells #[.string p.1, .int .u16 p.2] 134)) 2 (.slice Ao P.length co) P.length (flatV plVs P) ∧ Src Try.prog 2 129 (.slice (some ⟨w.heap.size, 0, none⟩) 1 1) 1 (plVs p) (w.alloc (.cells #[.string p.1, .int .u16 p.2] 134)) ∧
    ∀ A' c' w2, Sl w2 2 (.slice A' (P.length + 1) c') (P.length + 1) (flatV plVs P ++ plVs p) → (w.alloc (.cells #[.string p.1, .int .u16 p.2] 134)).grownBy w2 (Value.slice Ao P.length co).ownBlock →
      ((Value.slice A' (P.length + 1) c').ownBlock = (Value.slice Ao P.length co).ownBlock ∨ (Value.slice A' (P.length + 1) c').ownBlock = some (w.alloc (.cells #[.string p.1, .int .u16 p.2] 134)).heap.size) →
      Blk w2 bo 129 #[.slice Ao P.length co] ∧ GS (w2.setCell ⟨bo, 0, none⟩ (.slice A' (P.length + 1) c')) mb bm bo base m A' c' (P ++ [p]) G ∧ (∀ q, q < w.heap.size → some q ≠ (Value.slice Ao P.length co).ownBlock → q ≠ bo → (w2.setCell ⟨bo, 0, none⟩ (.slice A' (P.length + 1) c')).heap[q]? = w.heap[q]?) ∧
        w.heap.size ≤ w2.heap.size ∧ ∀ B v, Below B v w → B ≤ bo → B ≤ base → Below B v (w2.setCell ⟨bo, 0, none⟩ (.slice A' (P.length + 1) c')) := by
  have hbo := h.bo_.lt
  refine ⟨h.os.alloc _, src_own Try.underlying129 (sl_rowO w 134 (plVs p)) (by simp [plVs, Value.oneCell']), fun A' c' w2 hs hg hv => ?_⟩
  obtain ⟨k1, k2, k3⟩ := h.order hbase p _ hs hg hv
  refine ⟨(h.bo_.alloc _).grown hg (fun e => (h.oo bo e.symm).2.2.2 rfl), k1, fun q h1 h2 h3 => ?_, k3, fun B v hb hB hB2 => ?_⟩
  · exact (Below.heap_setCell _ _ _ _ h3).trans ((hg.block q (by simp; omega) h2).trans (Below.heap_alloc w _ q h1))
  · exact ((hb.alloc (show B ≤ w.heap.size by omega) _).grown hg (by simp; omega) (fun g hg => by have := (h.oo g hg).1; omega)).setCell (p := ⟨bo, 0, none⟩) hB _
/-- The loop's state. -/
def OfI (w : World) (mb bm bo base : Nat) (pre : List RRec) (V : World) : Prop :=
  ∃ m Ao co P G, GS V mb bm bo base m Ao co P G ∧ OfInv pre P G ∧ m ≤ pre.length ∧ Below w.heap.size w V

/-! ### Sets in a list -/
/-- A set that lies in a list of sets. -/
structure SRec where
  n : ByteArray
  t : Int
  l : Int
  A : Option Addr
  xs : List ByteArray
  c : Nat
def SRec.vs (s : SRec) : List Value := [.string s.n, .int .u16 s.t, .int .u32 s.l, .slice s.A s.xs.length s.c]
theorem SRec.four (s : SRec) : s.vs.length = 4 := rfl
structure SRec.good (s : SRec) : Prop where
  ok : setOk s.n s.t s.l s.xs = true
  n1 : s.n.size ≤ 1000
  t1 : 0 ≤ s.t ∧ s.t ≤ 65535
  l1 : 0 ≤ s.l ∧ s.l ≤ 4294967295
  x1 : ∀ x ∈ s.xs, x.size ≤ 5000
theorem minL_ge : ∀ (L : List RRec), (∀ r ∈ L, 0 ≤ r.l) → 0 ≤ minL L
  | [], _ => Int.le_refl _
  | r :: l, h => by
    show 0 ≤ l.foldl (fun m x => min m x.l) r.l
    have key : ∀ (l : List RRec) (a : Int), 0 ≤ a → (∀ r ∈ l, 0 ≤ r.l) → 0 ≤ l.foldl (fun m x => min m x.l) a := by
      intro l
      induction l with
      | nil => intro a ha _; exact ha
      | cons x l ih => intro a ha hx; exact ih _ (by show 0 ≤ min a x.l; have := hx x (List.mem_cons_self ..); omega) fun r hr => hx r (List.mem_cons_of_mem _ hr)
    exact key l r.l (h r (List.mem_cons_self ..)) fun r hr => h r (List.mem_cons_of_mem _ hr)
theorem right_parts {r : RRec} (h : rightB r = true) : isName r.nb = true ∧ okD r.t r.db = true ∧ (r.l ≤ 2147483647 ∨ r.t = 41) := by
  simp only [rightB, chkR, Bool.and_eq_true, Bool.or_eq_true, decide_eq_true_eq] at h
  exact ⟨h.2.1, h.2.2.1, h.2.2.2⟩
theorem sgood {L : List RRec} {k : Int} {r0 : RRec} (h0 : L[0]? = some r0) (hk : k ≠ 41) (hr : ∀ r ∈ L, rightB r = true ∧ r.t = k ∧ r.small ∧ r.ok) {P : List Nat} {ds : List ByteArray} {A : Option Addr} {c : Nat}
    (hs : SrtK (keyF (foldsL k L)) cmpS P) (hst : StS (keyF (foldsL k L)) P (List.range L.length)) (hds : ds = pickD L ((ddX (keyF (foldsL k L)) none P).take 64)) : SRec.good ⟨r0.n, k, minL L, A, ds, c⟩ := by
  have hm0 : r0 ∈ L := List.mem_of_getElem? h0
  have hp : 0 < L.length := (List.getElem?_eq_some_iff.1 h0).1
  have h1 := hr r0 hm0
  refine ⟨found_ok hp hs hst hds (right_parts h1.1).1 (fun r hm => ?_) (fun r hm => ?_), h1.2.2.1.1, ?_, ⟨minL_ge L fun r hm => (hr r hm).2.2.2.2.2.2.1, minL_le L _ (fun r hm => (hr r hm).2.2.2.2.2.2.2) (by omega)⟩, fun x hx => ?_⟩
  · rcases (right_parts (hr r hm).1).2.2 with h | h
    · exact h
    · exact absurd ((hr r hm).2.1.symm.trans h) hk
  · have := (right_parts (hr r hm).1).2.1
    rw [(hr r hm).2.1] at this
    exact this
  · have := h1.2.2.2.2.1
    rw [h1.2.1] at this
    exact this
  · obtain ⟨r, hm, rfl⟩ := found_mem hst hds x hx
    exact (hr r hm).2.2.1.2
/-- The list of sets as it grows. -/
structure SI (V wr : World) (A7 : Option Addr) (c7 : Nat) (S : List SRec) (P : List (ByteArray × Int)) : Prop where
  sl : Sl wr 4 (.slice A7 S.length c7) S.length (flatV SRec.vs S)
  own : ∀ q, (Value.slice A7 S.length c7).ownBlock = some q → V.heap.size ≤ q
  dat : ∀ s ∈ S, Sl wr 1 (.slice s.A s.xs.length s.c) s.xs.length (s.xs.map Value.string) ∧ ∀ h, (Value.slice s.A s.xs.length s.c).ownBlock = some h → V.heap.size ≤ h ∧ (Value.slice A7 S.length c7).ownBlock ≠ some h
  key : S.map (fun s => (foldB s.n.data.toList, s.t)) = P.map (fun p => (p.1.data.toList, p.2))
  good : ∀ s ∈ S, s.good
  bl : Below V.heap.size V wr
theorem SI.nil_ (V : World) : SI V V none 0 [] [] := ⟨Sl.nil _ _, fun q hq => (by cases hq), fun s hs => (by cases hs), rfl, fun s hs => (by cases hs), Below.refl _ _⟩
theorem SI.low {V w w1 : World} {A7 : Option Addr} {c7 : Nat} {S : List SRec} {P : List (ByteArray × Int)} (h : SI V w A7 c7 S P) (hb : Below w.heap.size w w1) : SI V w1 A7 c7 S P :=
  ⟨h.sl.below hb h.sl.lt, h.own, fun s hs => ⟨(h.dat s hs).1.below hb (h.dat s hs).1.lt, (h.dat s hs).2⟩, h.key, h.good, h.bl.trans (hb.mono h.bl.size)⟩
theorem SI.push {V w w1 w3 : World} {A7 A' : Option Addr} {c7 c' : Nat} {S : List SRec} {P : List (ByteArray × Int)} (h : SI V w A7 c7 S P) (hb : Below w.heap.size w w1) (s : SRec) (p : ByteArray × Int) (hk : foldB s.n.data.toList = p.1.data.toList ∧ s.t = p.2) (hgd : s.good)
    (hd : Sl w1 1 (.slice s.A s.xs.length s.c) s.xs.length (s.xs.map Value.string)) (hdo : ∀ g, (Value.slice s.A s.xs.length s.c).ownBlock = some g → w.heap.size ≤ g) (o : Obj)
    (hs3 : Sl w3 4 (.slice A' (S.length + 1) c') (S.length + 1) (flatV SRec.vs S ++ s.vs)) (hg : (w1.alloc o).grownBy w3 (Value.slice A7 S.length c7).ownBlock)
    (hv : (Value.slice A' (S.length + 1) c').ownBlock = (Value.slice A7 S.length c7).ownBlock ∨ (Value.slice A' (S.length + 1) c').ownBlock = some (w1.alloc o).heap.size) : SI V w3 A' c' (S ++ [s]) (P ++ [p]) := by
  have z0 := h.bl.size
  have z1 := hb.size
  have z3 := hg.size
  simp at z3
  have hown : ∀ q, (Value.slice A' (S ++ [s]).length c').ownBlock = some q → (Value.slice A7 S.length c7).ownBlock = some q ∨ q = w1.heap.size + 1 := fun q hq => by
    rw [List.length_append] at hq
    have hq : (Value.slice A' (S.length + 1) c').ownBlock = some q := hq
    rcases hv with e | e
    · exact .inl (e ▸ hq)
    · rw [e] at hq; injection hq with hq; simp at hq; exact .inr hq.symm
  have kq : ∀ q, q < w1.heap.size → (Value.slice A7 S.length c7).ownBlock ≠ some q → w3.heap[q]? = w1.heap[q]? := fun q h1 h2 =>
    (hg.block q (by simp; omega) (fun e => h2 e.symm)).trans (Below.heap_alloc w1 o q h1)
  refine ⟨?_, fun q hq => ?_, fun x hx => ?_, ?_, fun x hx => ?_, ?_⟩
  · rw [List.length_append, flatV_append, flatV_one]; exact hs3
  · rcases hown q hq with e | e
    · exact h.own q e
    · omega
  · rcases List.mem_append.1 hx with hx | hx
    · obtain ⟨d1, d2⟩ := h.dat x hx
      have hlt := d1.lt
      refine ⟨d1.keep (by omega) fun q hq => (kq q (by have := hlt q hq; omega) (d2 q hq).2).trans (hb.block q (hlt q hq)), fun q hq => ⟨(d2 q hq).1, fun e => ?_⟩⟩
      rcases hown q e with e | e
      · exact (d2 q hq).2 e
      · have := hlt q hq; omega
    · rw [List.mem_singleton.1 hx]
      have hlt := hd.lt
      have h7 := h.sl.lt
      refine ⟨hd.keep (by omega) fun q hq => kq q (hlt q hq) (fun e => by have := h7 q e; have := hdo q hq; omega), fun q hq => ⟨by have := hdo q hq; omega, fun e => ?_⟩⟩
      rcases hown q e with e | e
      · have := h7 q e; have := hdo q hq; omega
      · have := hlt q hq; omega
  · rw [List.map_append, List.map_append, h.key]
    simp [hk.1, hk.2]
  · rcases List.mem_append.1 hx with hx | hx
    · exact h.good x hx
    · rw [List.mem_singleton.1 hx]; exact hgd
  · exact ((h.bl.trans (hb.mono z0)).alloc (by omega) o).grown hg (by simp; omega) (fun q hq => h.own q hq)
/-- What sets.Of answers. -/
def OfP (w : World) (e : Ending) (w' : World) : Prop :=
  ∃ (S : List SRec) (A : Option Addr) (c : Nat), e = .returned (.slice A S.length c) ∧ Sl w' 4 (.slice A S.length c) S.length (flatV SRec.vs S) ∧ (∀ q, (Value.slice A S.length c).ownBlock = some q → w.heap.size ≤ q) ∧
    (∀ s ∈ S, s.good ∧ STab w' s.A s.xs ∧ ∀ a, s.A = some a → w.heap.size ≤ a.block ∧ a.block < w'.heap.size) ∧
    S.Pairwise (fun a b => ¬ (foldB a.n.data.toList = foldB b.n.data.toList ∧ a.t = b.t)) ∧ S.length ≤ 100 ∧ Below w.heap.size w w'
theorem SI.done {V wr w w' : World} {A : Option Addr} {c : Nat} {S : List SRec} {P : List (ByteArray × Int)} (h : SI V wr A c S P) (hd : P.Pairwise fun a b => ¬ (a.1.data.toList = b.1.data.toList ∧ a.2 = b.2)) (hl : P.length ≤ 100)
    (hw : w.heap.size ≤ V.heap.size) (hs : wr.heap.size ≤ w'.heap.size) (hk : ∀ q, V.heap.size ≤ q → q < wr.heap.size → w'.heap[q]? = wr.heap[q]?) (hb : Below w.heap.size w w') : OfP w (.returned (.slice A S.length c)) w' := by
  refine ⟨S, A, c, rfl, h.sl.keep hs fun q hq => hk q (h.own q hq) (h.sl.lt q hq), fun q hq => Nat.le_trans hw (h.own q hq), fun s hx => ?_, ?_, ?_, hb⟩
  · obtain ⟨d1, d2⟩ := h.dat s hx
    have hlt := d1.lt
    have d3 : Sl w' 1 (.slice s.A s.xs.length s.c) s.xs.length (s.xs.map Value.string) := d1.keep hs fun q hq => hk q (d2 q hq).1 (hlt q hq)
    refine ⟨h.good s hx, ?_, fun a ha => ?_⟩
    · have e : (s.xs.map Value.string).length = s.xs.length := by simp
      rw [← e] at d3
      exact ttab_of_sl d3
    · have hq : (Value.slice s.A s.xs.length s.c).ownBlock = some a.block := by rw [ha]; rfl
      exact ⟨Nat.le_trans hw (d2 _ hq).1, Nat.lt_of_lt_of_le (hlt _ hq) hs⟩
  · have h1 : (P.map (fun p => (p.1.data.toList, p.2))).Pairwise (fun a b => ¬ (a.1 = b.1 ∧ a.2 = b.2)) := List.pairwise_map.2 hd
    rw [← h.key] at h1
    exact List.pairwise_map.1 h1
  · have h1 := congrArg List.length h.key
    simp at h1
    omega
end Go.Proofs.Ytfipacfompihkaa
