/- When a zone is right, and what follows: plain. No program in sight. Conditions: none. The keys and values of a zone's two maps. Conditions: none. What a look's two maps hold. Conditions: none. -/
import Derived.Test.YthnngndnpigjbaaGreatRrOk
import Derived.Test.YthnngndnpigjbaaGreatUp
import Derived.Test.YthnngndnpigjbaaGreatSame
import Derived.Test.YthnngndnpigjbaaGreatRdFoldS
import Derived.Test.YthnngndnpigjbaaGreatSTab
import Derived.Test.YthnngndnpigjbaaGreatMapR
import Derived.Test.YthnngndnpigjbaaGreatRR
import Derived.Test.YthnngndnpigjbaaGreatSl
import Derived.StringKeys
namespace Go.Proofs.YthnngndnpigjbaaGreat

theorem fold_fold (l : Bs) : foldB (foldB l) = foldB l := by
  have h : ∀ c : UInt8, lowB (lowB c) = lowB c := fun c => by
    unfold lowB
    split
    · rename_i h1
      have h2 : (c + 32).toNat = c.toNat + 32 := by rw [UInt8.toNat_add]; simp; omega
      rw [if_neg (by rw [h2]; omega)]
    · rfl
  unfold foldB
  rw [List.map_map]
  exact List.map_congr_left fun c _ => h c
theorem labs_folded (a : Bs) : (labs (foldB a)).1.map foldB = (labs (foldB a)).1 := by
  rw [labs_fold]
  show ((labs a).1.map foldB).map foldB = (labs a).1.map foldB
  rw [List.map_map]
  exact List.map_congr_left fun x _ => fold_fold x
theorem within_fold (a z : Bs) : withinB (foldB a) (foldB z) = withinB a z := by
  rw [withinB_eq, withinB_eq, isName_fold, isName_fold, labs_folded, labs_folded, labs_fold, labs_fold]
/-- What a folded name lies within stands among its ups. -/
theorem ups_of_within {a z : Bs} (h : withinB a z = true) : ∃ k, k ≤ (labs (foldB a)).1.length ∧ foldB z = (foldB a).drop (pos (labs (foldB a)).1 k) := by
  rw [← within_fold, within_iff, labs_folded, labs_folded] at h
  obtain ⟨ha, hz, p, hp⟩ := h
  refine ⟨p.length, ?_, ?_⟩
  · have := congrArg List.length hp; simp at this; omega
  · rw [drop_pos, ((isName_iff _).1 ha).2, ← hp, List.drop_left]
    exact isName_eq hz
theorem ups_mem {a z : Bs} (h : withinB a z = true) : foldB z ∈ upsL (foldB a) := by
  obtain ⟨k, hk, he⟩ := ups_of_within h
  have ha : isName (foldB a) = true := by rw [isName_fold]; exact ((within_iff a z).1 h).1
  rw [ups_yes ha, he]
  exact List.mem_map.2 ⟨k, List.mem_range.2 (by omega), rfl⟩
theorem posZ_lt {l : Bs} (h : isName l = true) {k : Nat} (hk : k ≤ (labs l).1.length) : pos (labs l).1 k < l.length := by
  have h1 := enc_le l
  have h2 := pos_le (labs l).1 k
  have h3 := ((isName_iff l).1 h).2
  rw [h3] at h1
  simp at h1
  omega
theorem ups_less (a : Bs) : (upsL a).Pairwise fun x y => y.length < x.length := by
  by_cases h : isName a = true
  · rw [ups_yes h, List.pairwise_map]
    refine (List.pairwise_lt_range (n := (labs a).1.length + 1)).imp_of_mem (fun {i j} hi hj hij => ?_)
    have hi := List.mem_range.1 hi
    have hj := List.mem_range.1 hj
    have h1 := pos_mono (labs a).1 i j hij (by omega)
    have h2 := posZ_lt h (k := j) (by omega)
    rw [List.length_drop, List.length_drop]
    omega
  · unfold upsL
    rw [if_neg h]
    exact List.Pairwise.nil
theorem within_short {a z : Bs} (h : withinB a z = true) (hs : foldB a ≠ foldB z) : (foldB z).length < (foldB a).length := by
  obtain ⟨k, hk, he⟩ := ups_of_within h
  have ha : isName (foldB a) = true := by rw [isName_fold]; exact ((within_iff a z).1 h).1
  rcases Nat.eq_zero_or_pos k with h0 | h0
  · rw [h0, pos_zero] at he
    exact absurd he.symm hs
  · have h1 := pos_mono (labs (foldB a)).1 0 k h0 hk
    rw [pos_zero] at h1
    have h2 := posZ_lt ha hk
    rw [he, List.length_drop]
    omega

/-! ### Zones -/
/-- How many records a name has: in all, and of some types. -/
structure Hd where
  all : Nat
  soa : Nat
  ns : Nat
  ali : Nat
  adr : Nat
def cntR (p : RRec → Bool) (pre : List RRec) (s : Bs) : Nat := (pre.filter fun r => decide (foldB r.nb = s) && p r).length
def hdOf (pre : List RRec) (s : Bs) : Hd := ⟨cntR (fun _ => true) pre s, cntR (fun r => decide (r.t = 6)) pre s, cntR (fun r => decide (r.t = 2)) pre s, cntR (fun r => decide (r.t = 5)) pre s, cntR (fun r => decide (r.t = 1) || decide (r.t = 28)) pre s⟩
theorem cntR_snoc (p : RRec → Bool) (pre : List RRec) (r : RRec) (s : Bs) : cntR p (pre ++ [r]) s = cntR p pre s + (if foldB r.nb = s ∧ p r = true then 1 else 0) := by
  unfold cntR
  rw [List.filter_append, List.length_append]
  by_cases h : foldB r.nb = s ∧ p r = true
  · rw [if_pos h]; simp [h.1, h.2]
  · rw [if_neg h]
    have : (decide (foldB r.nb = s) && p r) = false := by
      rw [Bool.eq_false_iff]
      intro h2
      simp only [Bool.and_eq_true, decide_eq_true_eq] at h2
      exact h h2
    simp [this]
theorem cntR_cons (p : RRec → Bool) (pre : List RRec) (r : RRec) (s : Bs) : cntR p (r :: pre) s = (if foldB r.nb = s ∧ p r = true then 1 else 0) + cntR p pre s := by
  unfold cntR
  rw [List.filter_cons]
  by_cases h : foldB r.nb = s ∧ p r = true
  · rw [if_pos h, if_pos (by simp [h.1, h.2])]; simp; omega
  · rw [if_neg h, if_neg (fun h2 => by simp only [Bool.and_eq_true, decide_eq_true_eq] at h2; exact h h2)]; omega
theorem cntR_pos {p : RRec → Bool} {pre : List RRec} {r : RRec} (hr : r ∈ pre) (hp : p r = true) : 0 < cntR p pre (foldB r.nb) := by
  unfold cntR
  refine List.length_pos_of_mem (a := r) (List.mem_filter.2 ⟨hr, ?_⟩)
  simp [hp]
theorem hd_sum (pre : List RRec) (s : Bs) : (hdOf pre s).ns + (hdOf pre s).adr ≤ (hdOf pre s).all := by
  induction pre with
  | nil => simp [hdOf, cntR]
  | cons r l ih =>
    simp only [hdOf, cntR_cons] at ih ⊢
    by_cases h : foldB r.nb = s
    · by_cases h2 : r.t = 2
      · simp [h, h2]; omega
      · by_cases h3 : r.t = 1 ∨ r.t = 28
        · rcases h3 with h3 | h3 <;> simp [h, h3] <;> omega
        · have h4 : ¬ (r.t = 1) := fun e => h3 (.inl e)
          have h5 : ¬ (r.t = 28) := fun e => h3 (.inr e)
          simp [h, h2, h4, h5]; omega
    · simp [h]; omega
/-- What no two records of a zone have alike. -/
def keyZ (r : RRec) : Bs × Int × Int × Bs := (foldB r.nb, r.t, r.c, foldD r.t r.db)
/-- May the zone have it, with those ahead of it? -/
def takeB (z : Bs) (pre : List RRec) (r : RRec) : Bool :=
  decide (r.c = 1) && (!decide (r.t = 41) && (!decide (r.l = 0) && (chkR r && (withinB r.nb z && !decide (keyZ r ∈ pre.map keyZ)))))
def takesB (z : Bs) : List RRec → List RRec → Bool
  | _, [] => true
  | pre, r :: rs => takeB z pre r && takesB z (pre ++ [r]) rs
/-- The first of the names above one that settles it. -/
def upF (top name : Bs) (N : Bs → Hd) (us : List Bs) : Option Bs := us.find? fun u => decide (u = top) || (!decide (u = name) && decide (0 < (N u).ns))
def upsB (top name : Bs) (N : Bs → Hd) (h : Hd) (us : List Bs) : Bool := match upF top name N us with
  | none => true
  | some u => decide (u = top) || decide (h.all = h.adr)
def fitsB (top name : Bs) (N : Bs → Hd) (h : Hd) : Bool :=
  !(decide (0 < h.ali) && decide (1 < h.all)) && (decide (name = top) || (!(decide (0 < h.soa) || (decide (0 < h.ns) && decide (h.ns + h.adr < h.all))) && upsB top name N h (upsL name)))
def soundB (z : Bs) (xs : List RRec) : Bool :=
  decide ((hdOf xs (foldB z)).soa = 1) && (!decide ((hdOf xs (foldB z)).ns = 0) && xs.all fun r => fitsB (foldB z) (foldB r.nb) (hdOf xs) (hdOf xs (foldB r.nb)))
def zoneB (z : Bs) (xs : List RRec) : Bool := isName z && (decide (xs.length ≤ 256) && (takesB z [] xs && soundB z xs))
theorem takesB_all {z : Bs} : ∀ (xs pre : List RRec), takesB z pre xs = true → ∀ r ∈ xs, r.c = 1 ∧ r.t ≠ 41 ∧ r.l ≠ 0 ∧ chkR r = true ∧ withinB r.nb z = true
  | [], _, _, r, hr => by cases hr
  | x :: xs, pre, h, r, hr => by
    simp only [takesB, Bool.and_eq_true] at h
    rcases List.mem_cons.1 hr with rfl | hr
    · have h1 := h.1
      simp only [takeB, Bool.and_eq_true, Bool.not_eq_true', decide_eq_true_eq, decide_eq_false_iff_not] at h1
      exact ⟨h1.1, h1.2.1, h1.2.2.1, h1.2.2.2.1, h1.2.2.2.2.1⟩
    · exact takesB_all xs _ h.2 r hr
theorem zoneB_all {z : Bs} {xs : List RRec} (h : zoneB z xs = true) : isName z = true ∧ ∀ r ∈ xs, r.c = 1 ∧ r.t ≠ 41 ∧ r.l ≠ 0 ∧ chkR r = true ∧ withinB r.nb z = true := by
  simp only [zoneB, Bool.and_eq_true] at h
  exact ⟨h.1, takesB_all xs [] h.2.2.1⟩
/-- No cut above a cut. -/
theorem zoneB_cut {z : Bs} {xs : List RRec} (h : zoneB z xs = true) {r r' : RRec} (hr : r ∈ xs) (hr' : r' ∈ xs) (ht : r.t = 2) (ht' : r'.t = 2) (hn : foldB r.nb ≠ foldB z) (hn' : foldB r'.nb ≠ foldB z) (hw : withinB r.nb r'.nb = true) : foldB r'.nb = foldB r.nb := by
  have hall := (zoneB_all h).2
  simp only [zoneB, soundB, Bool.and_eq_true, List.all_eq_true] at h
  have hf := h.2.2.2.2.2 r hr
  have hns : 0 < (hdOf xs (foldB r.nb)).ns := cntR_pos (p := fun r => decide (r.t = 2)) hr (by simp [ht])
  have hns' : 0 < (hdOf xs (foldB r'.nb)).ns := cntR_pos (p := fun r => decide (r.t = 2)) hr' (by simp [ht'])
  have hsum := hd_sum xs (foldB r.nb)
  simp only [fitsB, Bool.and_eq_true, Bool.or_eq_true, decide_eq_true_eq] at hf
  rcases hf.2 with h1 | ⟨_, h2⟩
  · exact absurd h1 hn
  · by_cases he : foldB r'.nb = foldB r.nb
    · exact he
    · exfalso
      have hmem := ups_mem hw
      have hsh := within_short (hall r' hr').2.2.2.2 hn'
      unfold upsB at h2
      cases hu : upF (foldB z) (foldB r.nb) (hdOf xs) (upsL (foldB r.nb)) with
      | none =>
        have h3 := (List.find?_eq_none.1 hu) _ hmem
        simp [he, hns'] at h3
      | some u =>
        rw [hu] at h2
        simp only [Bool.or_eq_true, decide_eq_true_eq] at h2
        rcases h2 with h2 | h2
        · obtain ⟨hp, l1, l2, hs, hno⟩ := List.find?_eq_some_iff_append.1 hu
          have hpw := ups_less (foldB r.nb)
          rw [hs] at hmem hpw
          rcases List.mem_append.1 hmem with hm | hm
          · have := hno _ hm
            simp [he, hns'] at this
          · rcases List.mem_cons.1 hm with hm | hm
            · rw [h2] at hm; exact hn' hm
            · have h5 := (List.pairwise_append.1 hpw).2.1
              have h6 := (List.pairwise_cons.1 h5).1 _ hm
              rw [h2] at h6
              omega
        · omega
end Go.Proofs.YthnngndnpigjbaaGreat

namespace Go.Proofs.YthnngndnpigjbaaGreat
open Go.RowKit Go.Lib

def saK (s : Bs) (t c : Int) (d : Bs) : Lit := .string (keyBytes [.string s, .int .u16 t, .int .u16 c, .string d])
theorem sa_keyType : Tryz.prog.keyType 109 = true := by kernel_rfl
theorem sa_keyTypeAt : Tryz.prog.keyTypeAt 3 109 = true := by kernel_rfl
theorem sa_cells : Tryz.prog.cellsOf 109 = 4 := by kernel_rfl
theorem u16_cells : Tryz.prog.cellsOf 29 = 1 := by kernel_rfl
theorem sa_keyed : Maps.Keyed Tryz.prog 109 :=
  Maps.Keyed.of_law (deep_law_laid laidOutC (m := 3) (by decide) (of_decide_eq_true (by kernel_rfl)) sa_keyTypeAt (by kernel_rfl))
theorem keyOf_sa (s d : ByteArray) (t c : Int) (hs : s.size ≤ maxLen) (hd : d.size ≤ maxLen) (ht : 0 ≤ t ∧ t ≤ 65535) (hc : 0 ≤ c ∧ c ≤ 65535) : keyOf Tryz.prog 109 (.agg #[.string s, .int .u16 t, .int .u16 c, .string d]) = some (saK s.data.toList t c d.data.toList) := by
  obtain ⟨m, hm⟩ := types_manyC
  have h1 := wf16C ht
  have h2 := wf16C hc
  unfold keyOf saK
  rw [Tryz.underlying109, sa_keyType, hm]
  simp [Value.formed, Tryz.underlying109, sa_cells, Program.keyLits, str_cellsC, rt_cellsC, u16_cells, Tryz.underlying9, Tryz.underlying30, Tryz.underlying29, Value.cells, h1, h2, hs, hd]
theorem saK_isKey (s : Bs) (t c : Int) (d : Bs) : WideAt.IsKeyLit (saK s t c d) := trivial
theorem saK_inj {s s' d d' : Bs} {t t' c c' : Int} (hs : s.length ≤ maxLen) (hs' : s'.length ≤ maxLen) (hd : d.length ≤ maxLen) (hd' : d'.length ≤ maxLen) (ht : 0 ≤ t ∧ t ≤ 65535) (ht' : 0 ≤ t' ∧ t' ≤ 65535) (hc : 0 ≤ c ∧ c ≤ 65535) (hc' : 0 ≤ c' ∧ c' ≤ 65535)
    (h : saK s t c d = saK s' t' c' d') : s = s' ∧ t = t' ∧ c = c' ∧ d = d' := by
  unfold saK at h
  injection h with h
  have := keyBytes_inj (l := [.string s, .int .u16 t, .int .u16 c, .string d]) (l' := [.string s', .int .u16 t', .int .u16 c', .string d']) ⟨trivial, rfl, rfl, trivial, trivial⟩ (fun a ha => by
    simp only [List.mem_cons, List.not_mem_nil, or_false] at ha
    rcases ha with rfl | rfl | rfl | rfl
    · exact hs
    · exact wf16C ht
    · exact wf16C hc
    · exact hd) (fun a ha => by
    simp only [List.mem_cons, List.not_mem_nil, or_false] at ha
    rcases ha with rfl | rfl | rfl | rfl
    · exact hs'
    · exact wf16C ht'
    · exact wf16C hc'
    · exact hd') h
  simp only [List.cons.injEq, Lit.string.injEq, Lit.int.injEq, true_and, and_true] at this
  exact this
theorem strZ_keyed : Maps.Keyed Tryz.prog 9 := Maps.string_keyed Tryz.underlying9
set_option maxRecDepth 100000 in
theorem zero_hd (w : World) : (zeroValue 111).run Tryz.prog w = .ok (.agg #[.int .i64 0, .int .i64 0, .int .i64 0, .int .i64 0, .int .i64 0]) w := by kernel_rfl
theorem zero_intZ (w : World) : (zeroValue 3).run Tryz.prog w = .ok (.int .i64 0) w := by kernel_rfl
def Hd.val (h : Hd) : Value := .agg #[.int .i64 (h.all : Int), .int .i64 (h.soa : Int), .int .i64 (h.ns : Int), .int .i64 (h.ali : Int), .int .i64 (h.adr : Int)]
end Go.Proofs.YthnngndnpigjbaaGreat

namespace Go.Proofs.YthnngndnpigjbaaGreat
open Go.RowKit Go.Lib

/-- The map of what is said: 1 at each key that stands. -/
def SaidM (w : World) (sb m : Nat) (ks : List (Bs × Int × Int × Bs)) : Prop :=
  ∃ F, MapV Tryz.prog 109 w sb m F ∧ ∀ (s : Bs) (t k : Int) (d : Bs), s.length ≤ maxLen → d.length ≤ maxLen → (0 ≤ t ∧ t ≤ 65535) → (0 ≤ k ∧ k ≤ 65535) → F (saK s t k d) = if (s, t, k, d) ∈ ks then some (.int .i64 1) else none
/-- The map of names: how many records each has. -/
def NamesM (w : World) (nb m : Nat) (pre : List RRec) : Prop :=
  ∃ F, MapV Tryz.prog 9 w nb m F ∧ (∀ s : Bs, s.length ≤ maxLen → F (.string s) = if (hdOf pre s).all = 0 then none else some (hdOf pre s).val) ∧ ∀ kl v, F kl = some v → ∃ r ∈ pre, kl = .string (foldB r.nb)
/-- A look at a zone, some of its records taken. -/
structure LkS (w : World) (vb sb nb : Nat) (z : ByteArray) (A : Option Addr) (len c m : Nat) (pre : List RRec) : Prop where
  bx : Blk w vb 59 #[.string z, .slice A len c, .map (some sb), .map (some nb)]
  sm : SaidM w sb m (pre.map keyZ)
  nm : NamesM w nb m pre
  ne : vb ≠ sb ∧ vb ≠ nb ∧ sb ≠ nb
def TakP (w : World) (vb sb nb : Nat) (z : ByteArray) (A : Option Addr) (len c m : Nat) (pre : List RRec) (r : RRec) (e : Ending) (w' : World) : Prop :=
  e = .returned (.bool (takeB z.data.toList pre r)) ∧ (takeB z.data.toList pre r = true → LkS w' vb sb nb z A len c (m + 1) (pre ++ [r])) ∧ KeepK (fun i => i < w.heap.size ∧ i ≠ sb ∧ i ≠ nb) w w'
section
variable {w w' : World} {vb sb nb : Nat} {z : ByteArray} {A : Option Addr} {len c m : Nat} {pre : List RRec}
theorem SaidM.lt {ks} (h : SaidM w sb m ks) : sb < w.heap.size := by obtain ⟨F, h1, _⟩ := h; exact h1.lt
theorem NamesM.lt (h : NamesM w nb m pre) : nb < w.heap.size := by obtain ⟨F, h1, _⟩ := h; exact h1.lt
theorem SaidM.keep {ks} (h : SaidM w sb m ks) (hk : w'.heap[sb]? = w.heap[sb]?) : SaidM w' sb m ks := by obtain ⟨F, h1, h2⟩ := h; exact ⟨F, h1.keep hk, h2⟩
theorem NamesM.keep (h : NamesM w nb m pre) (hk : w'.heap[nb]? = w.heap[nb]?) : NamesM w' nb m pre := by obtain ⟨F, h1, h2⟩ := h; exact ⟨F, h1.keep hk, h2⟩
theorem NamesM.mono (h : NamesM w nb m pre) {k : Nat} (hk : m ≤ k) : NamesM w nb k pre := by obtain ⟨F, h1, h2⟩ := h; exact ⟨F, h1.mono hk, h2⟩
theorem LkS.low (h : LkS w vb sb nb z A len c m pre) (hb : Below w.heap.size w w') : LkS w' vb sb nb z A len c m pre :=
  ⟨h.bx.below hb h.bx.lt, h.sm.keep (hb.block _ h.sm.lt), h.nm.keep (hb.block _ h.nm.lt), h.ne⟩
theorem SaidM.made (w : World) : SaidM (w.alloc (.map #[] 0)) w.heap.size 0 [] := ⟨_, MapV.made w _ _, fun s t k d _ _ _ _ => by simp⟩
theorem NamesM.made (w : World) : NamesM (w.alloc (.map #[] 0)) w.heap.size 0 [] := ⟨_, MapV.made w _ _, fun s _ => by simp [hdOf, cntR], fun kl v h => by cases h⟩

theorem cntR_le (p : RRec → Bool) (pre : List RRec) (s : Bs) : cntR p pre s ≤ cntR (fun _ => true) pre s := by
  induction pre with
  | nil => simp [cntR]
  | cons r l ih =>
    simp only [cntR_cons]
    by_cases h : foldB r.nb = s
    · by_cases h2 : p r = true
      · simp [h, h2]; omega
      · simp [h, h2]; omega
    · simp [h]; omega
theorem cntR_len (p : RRec → Bool) (pre : List RRec) (s : Bs) : cntR p pre s ≤ pre.length := List.length_filter_le _ _
theorem hd_none {pre : List RRec} {s : Bs} (h : (hdOf pre s).all = 0) : hdOf pre s = ⟨0, 0, 0, 0, 0⟩ := by
  have h0 : cntR (fun _ => true) pre s = 0 := h
  unfold hdOf
  have k := fun p => cntR_le p pre s
  have k1 := k (fun r => decide (r.t = 6))
  have k2 := k (fun r => decide (r.t = 2))
  have k3 := k (fun r => decide (r.t = 5))
  have k4 := k (fun r => decide (r.t = 1) || decide (r.t = 28))
  congr 1 <;> omega
theorem hd_snoc (pre : List RRec) (r : RRec) : hdOf (pre ++ [r]) (foldB r.nb) = ⟨(hdOf pre (foldB r.nb)).all + 1, (hdOf pre (foldB r.nb)).soa + (if r.t = 6 then 1 else 0), (hdOf pre (foldB r.nb)).ns + (if r.t = 2 then 1 else 0), (hdOf pre (foldB r.nb)).ali + (if r.t = 5 then 1 else 0), (hdOf pre (foldB r.nb)).adr + (if r.t = 1 ∨ r.t = 28 then 1 else 0)⟩ := by
  simp [hdOf, cntR_snoc]
theorem hd_snoc_ne (pre : List RRec) (r : RRec) {s : Bs} (h : foldB r.nb ≠ s) : hdOf (pre ++ [r]) s = hdOf pre s := by
  simp [hdOf, cntR_snoc, h]
theorem hd_bound (pre : List RRec) (s : Bs) : (hdOf pre s).all ≤ pre.length ∧ (hdOf pre s).soa ≤ pre.length ∧ (hdOf pre s).ns ≤ pre.length ∧ (hdOf pre s).ali ≤ pre.length ∧ (hdOf pre s).adr ≤ pre.length :=
  ⟨cntR_len _ _ _, cntR_len _ _ _, cntR_len _ _ _, cntR_len _ _ _, cntR_len _ _ _⟩
theorem bsize (s : ByteArray) : s.data.toList.length = s.size := by rw [Array.length_toList]; rfl

theorem NamesM.look (h : NamesM w nb m pre) (s : ByteArray) (hs : s.size ≤ maxLen) :
    (Instr.lookup 57 (.map (some nb)) (.string s) false).run Tryz.prog w = .ok (hdOf pre s.data.toList).val w := by
  obtain ⟨F, h1, h2, _⟩ := h
  rw [h1.look strZ_keyed Tryz.underlying57 (zero_hd w) (kl := .string s.data.toList) (WideMaps.keyOf_string_mk Tryz.underlying9 hs), h2 _ (by rw [bsize]; exact hs)]
  by_cases h0 : (hdOf pre s.data.toList).all = 0
  · rw [if_pos h0, hd_none h0]; rfl
  · rw [if_neg h0]; rfl
theorem SaidM.look {ks : List (Bs × Int × Int × Bs)} (h : SaidM w sb m ks) (s d : ByteArray) (t k : Int) (hs : s.size ≤ maxLen) (hd : d.size ≤ maxLen) (ht : 0 ≤ t ∧ t ≤ 65535) (hk : 0 ≤ k ∧ k ≤ 65535) :
    (Instr.lookup 56 (.map (some sb)) (.agg #[.string s, .int .u16 t, .int .u16 k, .string d]) false).run Tryz.prog w = .ok (.int .i64 (if (s.data.toList, t, k, d.data.toList) ∈ ks then 1 else 0)) w := by
  obtain ⟨F, h1, h2⟩ := h
  rw [h1.look sa_keyed Tryz.underlying56 (zero_intZ w) (keyOf_sa s d t k hs hd ht hk), h2 _ _ _ _ (by rw [bsize]; exact hs) (by rw [bsize]; exact hd) ht hk]
  by_cases h0 : (s.data.toList, t, k, d.data.toList) ∈ ks
  · rw [if_pos h0, if_pos h0]; rfl
  · rw [if_neg h0, if_neg h0]; rfl
/-- 'v.said[key]++' at a key that is not there. -/
theorem SaidM.put {ks : List (Bs × Int × Int × Bs)} (h : SaidM w sb m ks) (hm : m + 1 < maxLen) (s d : ByteArray) (t k : Int) (hs : s.size ≤ maxLen) (hd : d.size ≤ maxLen) (ht : 0 ≤ t ∧ t ≤ 65535) (hk : 0 ≤ k ∧ k ≤ 65535) (hno : (s.data.toList, t, k, d.data.toList) ∉ ks) :
    ∃ w1 w2 e, (Instr.mapEntry 56 (.map (some sb)) (.agg #[.string s, .int .u16 t, .int .u16 k, .string d])).run Tryz.prog w = .ok (.tuple #[.int .i64 0, e]) w1 ∧
      (Instr.entryStore 56 (.map (some sb)) e (.int .i64 1)).run Tryz.prog w1 = .ok () w2 ∧
      (Instr.lookup 56 (.map (some sb)) (.agg #[.string s, .int .u16 t, .int .u16 k, .string d]) false).run Tryz.prog w1 = .ok (.int .i64 0) w1 ∧
      SaidM w2 sb (m + 1) (ks ++ [(s.data.toList, t, k, d.data.toList)]) ∧ w.grownBy w1 (some sb) ∧ w.grownBy w2 (some sb) := by
  obtain ⟨F, h1, h2⟩ := h
  have hK := keyOf_sa s d t k hs hd ht hk
  have hsl : s.data.toList.length ≤ maxLen := by rw [bsize]; exact hs
  have hdl : d.data.toList.length ≤ maxLen := by rw [bsize]; exact hd
  have hF : F (saK s.data.toList t k d.data.toList) = none := by rw [h2 _ _ _ _ hsl hdl ht hk, if_neg hno]
  obtain ⟨w1, w2, e, q1, q2, q3, q4, q5, q6, _⟩ := h1.entry_new sa_keyed Tryz.underlying56 (by omega) hK (saK_isKey _ _ _ _) hF (zero_intZ w) (.int .i64 1)
  refine ⟨w1, w2, e, q1, q2, ?_, ⟨_, q4, fun s' t' k' d' hs' hd' ht' hk' => ?_⟩, q5, q6⟩
  · have hss := WideAt.sameKey_self (saK_isKey s.data.toList t k d.data.toList)
    refine (q3.look sa_keyed Tryz.underlying56 (zero_intZ w1) hK).trans ?_
    generalize saK s.data.toList t k d.data.toList = kl at hss ⊢
    rw [hss]
    simp only [if_true, Option.getD_some]
  · by_cases he : (s', t', k', d') = (s.data.toList, t, k, d.data.toList)
    · obtain ⟨e1, e2, e3, e4⟩ : s' = s.data.toList ∧ t' = t ∧ k' = k ∧ d' = d.data.toList := by simpa using he
      rw [e1, e2, e3, e4] at *
      clear e1 e2 e3 e4
      rw [if_pos (WideAt.sameKey_self (saK_isKey _ _ _ _)), if_pos (by simp)]
    · rw [if_neg (fun hsame => he (by
        obtain ⟨a1, a2, a3, a4⟩ := saK_inj hs' hsl hd' hdl ht' ht hk' hk (WideAt.sameKey_eq hsame)
        rw [a1, a2, a3, a4])), h2 _ _ _ _ hs' hd' ht' hk']
      simp [he]
/-- 'v.names[name] = h'. -/
theorem NamesM.put (h : NamesM w nb m pre) (hm : m + 1 < maxLen) (r : RRec) (s : ByteArray) (hs : s.size ≤ maxLen) (hf : s.data.toList = foldB r.nb) (val : Value) (hv : val = (hdOf (pre ++ [r]) (foldB r.nb)).val) :
    ∃ w2, (Instr.mapUpdate 57 (.map (some nb)) (.string s) val).run Tryz.prog w = .ok () w2 ∧ NamesM w2 nb (m + 1) (pre ++ [r]) ∧ w.grownBy w2 (some nb) := by
  obtain ⟨F, h1, h2, h3⟩ := h
  have hsl : s.data.toList.length ≤ maxLen := by rw [bsize]; exact hs
  obtain ⟨w2, q1, q2, q3, _⟩ := h1.store strZ_keyed Tryz.underlying57 (by omega) (kl := .string s.data.toList) (WideMaps.keyOf_string_mk Tryz.underlying9 hs) trivial val
  refine ⟨w2, q1, ⟨_, q2, fun s' hs' => ?_, fun kl v hkl => ?_⟩, q3⟩
  · by_cases he : s' = s.data.toList
    · subst he
      rw [if_pos (WideAt.sameKey_self (show WideAt.IsKeyLit (.string s.data.toList) from trivial)), hv, hf, if_neg (by rw [hd_snoc]; simp)]
    · rw [if_neg (fun hsame => he (by have := WideAt.sameKey_eq hsame; injection this)), h2 _ hs', hd_snoc_ne _ _ (fun e => he (by rw [hf, e]))]
  · by_cases he : kl.sameKey (.string s.data.toList) = true
    · exact ⟨r, by simp, by rw [WideAt.sameKey_eq he, hf]⟩
    · rw [if_neg he] at hkl
      obtain ⟨r', hr', e⟩ := h3 _ _ hkl
      exact ⟨r', by simp [hr'], e⟩
/-- What stands once both maps are stored to. -/
theorem take_fin {W8 w2 W12 w4 : World} {r : RRec} (hB : Below w.heap.size w W8) (h0 : LkS w vb sb nb z A len c m pre) (q4 : SaidM w2 sb (m + 1) ((pre ++ [r]).map keyZ)) (q6 : W8.drew.grownBy w2 (some sb))
    (k : KeepK (fun i => i < w2.heap.size) w2 W12) (hN : NamesM w4 nb (m + 1) (pre ++ [r])) (g4 : W12.drew.grownBy w4 (some nb)) :
    LkS w4 vb sb nb z A len c (m + 1) (pre ++ [r]) ∧ KeepK (fun i => i < w.heap.size ∧ i ≠ sb ∧ i ≠ nb) w w4 := by
  have z1 := hB.size
  have z2 : W8.heap.size ≤ w2.heap.size := q6.size
  have z3 : w2.heap.size ≤ W12.heap.size := k.size
  have hv := h0.bx.lt
  have hs := h0.sm.lt
  have hn := h0.nm.lt
  obtain ⟨n1, n2, n3⟩ := h0.ne
  have same : ∀ i, i < w.heap.size → i ≠ sb → i ≠ nb → w4.heap[i]? = w.heap[i]? := fun i h1 h2 h3 =>
    (g4.block i (show i < W12.heap.size by omega) (fun e => h3 (Option.some.inj e))).trans ((k.block i (by omega)).trans ((q6.block i (show i < W8.heap.size by omega) (fun e => h2 (Option.some.inj e))).trans (hB.block i h1)))
  have hk1 : KeepK (fun i => i < w.heap.size ∧ i ≠ sb ∧ i ≠ nb) w w4 :=
    (((KeepK.of_below hB (fun i h => h.1)).drew.grown q6 (fun i h => show i < W8.heap.size by omega) (fun i h e => h.2.1 (Option.some.inj e))).trans (k.mono fun i h => by omega)).drew.grown g4 (fun i h => show i < W12.heap.size by omega) (fun i h e => h.2.2 (Option.some.inj e))
  refine ⟨⟨(same vb hv n1 n2).trans h0.bx, q4.keep ?_, hN, h0.ne⟩, hk1⟩
  exact (g4.block sb (show sb < W12.heap.size by omega) (fun e => n3 (Option.some.inj e))).trans (k.block sb (by omega))
end
end Go.Proofs.YthnngndnpigjbaaGreat
