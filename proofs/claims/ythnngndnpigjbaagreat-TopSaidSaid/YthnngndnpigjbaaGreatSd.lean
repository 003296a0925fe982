/- The records of a set, looked for again, are that set; what a right zone's sets and cuts are: plain. Conditions: none. The walks of hardtacklaw22.Small, message.Code and sets.Records at a right set. Conditions: none. The walks of class.Chain and class.Refers at the records of one set. Conditions: none. The walk of class.Refers at the records of one set of NS. Conditions: none. The walk of class.Of at the records of one set: as an answer, and as a referral. Conditions: none. -/
import Derived.Test.YthnngndnpigjbaaGreatZnC
import Derived.Test.YthnngndnpigjbaaGreatDeepest
import Derived.Test.YthnngndnpigjbaaGreatSays
import Derived.Test.YthnngndnpigjbaaGreatCollS
import Derived.Test.YthnngndnpigjbaaGreatAbs
namespace Go.Proofs.YthnngndnpigjbaaGreat
open Go.RowKit Go.Lib

/-- A record for each of a set's data. -/
def recsR (n : ByteArray) (t l : Int) (ds : List ByteArray) : List RRec := ds.map fun d => ⟨n, t, 1, l, d⟩
theorem recsR_len (n : ByteArray) (t l : Int) (ds : List ByteArray) : (recsR n t l ds).length = ds.length := by simp [recsR]
structure SetK (n : ByteArray) (t l : Int) (ds : List ByteArray) : Prop where
  name : isName n.data.toList = true
  ttl : l ≤ 2147483647
  pos : 0 < ds.length
  len : ds.length ≤ 64
  dat : ∀ d ∈ ds, okD t d.data.toList = true
  rise : riseL (ds.map (foldX t)) = true
theorem setK_of {n : ByteArray} {t l : Int} {ds : List ByteArray} (h : setOk n t l ds = true) : SetK n t l ds := by
  unfold setOk at h
  simp only [Bool.and_eq_true, decide_eq_true_eq, List.all_eq_true] at h
  exact ⟨h.1, h.2.1, h.2.2.1, h.2.2.2.1, h.2.2.2.2.1, h.2.2.2.2.2⟩
theorem recs_right {n : ByteArray} {t l : Int} {ds : List ByteArray} (h : SetK n t l ds) {r : RRec} (hr : r ∈ recsR n t l ds) : rightB r = true ∧ r.n = n ∧ r.t = t ∧ r.c = 1 ∧ r.l = l ∧ chkR r = true := by
  obtain ⟨d, hd, rfl⟩ := List.mem_map.1 hr
  have hk : chkR ⟨n, t, 1, l, d⟩ = true := by
    unfold chkR
    rw [show isName (RRec.nb ⟨n, t, 1, l, d⟩) = true from h.name, show okD t (RRec.db ⟨n, t, 1, l, d⟩) = true from h.dat d hd, decide_eq_true (show l ≤ 2147483647 from h.ttl)]
    rfl
  exact ⟨by unfold rightB; rw [hk]; rfl, rfl, rfl, rfl, rfl, hk⟩
theorem recs_near {n : ByteArray} {t l : Int} {ds : List ByteArray} (h : SetK n t l ds) : rightL ((recsR n t l ds).filter (nearR t n)) = recsR n t l ds := by
  have h1 : (recsR n t l ds).filter (nearR t n) = recsR n t l ds := List.filter_eq_self.2 fun r hr => by
    obtain ⟨_, h1, h2, _⟩ := recs_right h hr
    unfold nearR
    simp [h1, h2]
  rw [h1]
  exact List.filter_eq_self.2 fun r hr => (recs_right h hr).1
theorem recs_min {n : ByteArray} {t l : Int} {ds : List ByteArray} (h : 0 < ds.length) : minL (recsR n t l ds) = l := by
  cases ds with
  | nil => simp at h
  | cons d ds =>
    show ((ds.map fun d => (⟨n, t, 1, l, d⟩ : RRec)).foldl (fun m x => min m x.l) l) = l
    clear h
    induction ds with
    | nil => rfl
    | cons e ds ih =>
      rw [List.map_cons, List.foldl_cons]
      show (ds.map fun d => (⟨n, t, 1, l, d⟩ : RRec)).foldl (fun m x => min m x.l) (min l l) = l
      rw [Int.min_self]
      exact ih
theorem pw_of_rise : ∀ l : List Bs, riseL l = true → l.Pairwise (fun a b => cmpS a b < 0)
  | [], _ => List.Pairwise.nil
  | [_], _ => List.pairwise_singleton _ _
  | a :: b :: r, h => by
    simp only [riseL, Bool.and_eq_true] at h
    have h2 := pw_of_rise (b :: r) h.2
    have h1 : cmpS a b < 0 := by unfold cmpS; rw [if_pos h.1]; decide
    refine List.pairwise_cons.2 ⟨fun x hx => ?_, h2⟩
    rcases List.mem_cons.1 hx with rfl | hx
    · exact h1
    · exact cmpS_tot.trans _ _ _ h1 ((List.pairwise_cons.1 h2).1 x hx)
theorem ddX_id {α κ : Type} [DecidableEq κ] {key : α → κ} {c : κ → κ → Int} (T : TotC c) : ∀ (l : List α) (pv : Option κ), l.Pairwise (fun x y => c (key x) (key y) < 0) → (∀ k, pv = some k → ∀ x ∈ l, c k (key x) < 0) → ddX key pv l = l
  | [], _, _, _ => rfl
  | y :: l, pv, h, hp => by
    have h1 := List.pairwise_cons.1 h
    have hne : pv ≠ some (key y) := fun e => by
      have h2 := hp _ e y (List.mem_cons_self ..)
      have h3 := (T.zero (key y) (key y)).2 rfl
      omega
    unfold ddX
    rw [if_neg hne, ddX_id T l (some (key y)) h1.2 fun k hk x hx => by injection hk with hk; rw [← hk]; exact h1.1 x hx]
theorem recs_pick {n : ByteArray} {t l : Int} {ds : List ByteArray} (h : SetK n t l ds) {P : List Nat} (hs : SrtK (keyF (foldsL t (recsR n t l ds))) cmpS P) (hst : StS (keyF (foldsL t (recsR n t l ds))) P (List.range (recsR n t l ds).length)) :
    pickD (recsR n t l ds) ((ddX (keyF (foldsL t (recsR n t l ds))) none P).take 64) = ds := by
  obtain ⟨R, hR⟩ : ∃ R, recsR n t l ds = R := ⟨_, rfl⟩
  have hl : R.length = ds.length := by rw [← hR, recsR_len]
  have hat : ∀ i (hi : i < ds.length), R[i]? = some ⟨n, t, 1, l, ds[i]⟩ := fun i hi => by
    rw [← hR]
    unfold recsR
    rw [List.getElem?_map, List.getElem?_eq_getElem hi]
    rfl
  have hkey : ∀ i (hi : i < ds.length), keyF (foldsL t R) i = foldX t ds[i] := fun i hi => by
    have h9 := fold_at (t := t) (L := R) (i := i) (by omega)
    rw [hat i hi] at h9
    exact h9.symm
  rw [hR] at hs hst ⊢
  have hpw : (List.range R.length).Pairwise (fun i j => cmpS (keyF (foldsL t R) i) (keyF (foldsL t R) j) < 0) := by
    have h1 := pw_of_rise _ h.rise
    rw [List.pairwise_iff_getElem] at h1 ⊢
    intro i j hi hj hij
    simp only [List.length_range] at hi hj
    rw [List.getElem_range, List.getElem_range, hkey i (by omega), hkey j (by omega)]
    have h2 := h1 i j (by simp; omega) (by simp; omega) hij
    simpa using h2
  have hsr : SrtK (keyF (foldsL t R)) cmpS (List.range R.length) := hpw.imp fun {i j} hij => by
    have := cmpS_tot.anti (keyF (foldsL t R) i) (keyF (foldsL t R) j)
    omega
  have hP := srt_unique cmpS_tot P (List.range R.length) hs hsr hst
  rw [hP, ddX_id cmpS_tot _ none hpw (fun k hk => by cases hk), List.take_of_length_le (by rw [List.length_range]; have := h.len; omega)]
  unfold pickD
  refine List.ext_getElem (by simp [hl]) fun i h1 h2 => ?_
  rw [List.getElem_map, List.getElem_range, hat i h2]
  rfl
/-- A set has been told, and no fault. -/
def GotP (n : ByteArray) (t l : Int) (ds : List ByteArray) (w : World) (e : Ending) (w' : World) : Prop :=
  ∃ (Ad : Option Addr) (cd : Nat), e = .returned (.tuple #[setV n t l Ad ds cd, .int .i64 0]) ∧ Sl w' 1 (.slice Ad ds.length cd) ds.length (ds.map Value.string) ∧ (∀ h, (Value.slice Ad ds.length cd).ownBlock = some h → w.heap.size ≤ h) ∧ Below w.heap.size w w'
theorem got_again {n : ByteArray} {t l : Int} {ds : List ByteArray} {w w' : World} {e : Ending} (h : SetK n t l ds) (hf : FindP n t (recsR n t l ds) w e w') : GotP n t l ds w e w' := by
  have hne : recsR n t l ds ≠ [] := fun e => by have h1 := recsR_len n t l ds; rw [e] at h1; have h2 := h.pos; simp at h1; omega
  have hf2 := findP_found hf h.name (by rw [recs_near h]; exact hne)
  rw [recs_near h] at hf2
  obtain ⟨P, ds', Ad, cd, h1, h2, h3, rfl, h5, h6, h7⟩ := hf2
  rw [recs_pick h h1 h2] at h3
  subst h3
  rw [recs_min h.pos]
  exact ⟨Ad, cd, rfl, h5, h6, h7⟩
/-- What is found among a zone's records is a right set. -/
theorem got_first {n : ByteArray} {t : Int} {L : List RRec} {w w' : World} {e : Ending} (hf : FoundP n t L w e w') (hn : isName n.data.toList = true) (h1 : L ≠ []) (hl : ∀ r ∈ L, 0 ≤ r.l ∧ r.l ≤ 2147483647) (hok : ∀ r ∈ L, okD t r.d.data.toList = true) :
    ∃ (l : Int) (ds : List ByteArray), setOk n t l ds = true ∧ 0 ≤ l ∧ GotP n t l ds w e w' := by
  obtain ⟨P, ds, Ad, cd, h2, h3, h4, rfl, h5, h6, h7⟩ := hf
  refine ⟨minL L, ds, found_ok (List.length_pos_iff.2 h1) h2 h3 h4 hn (fun r hr => (hl r hr).2) hok, ?_, Ad, cd, rfl, h5, h6, h7⟩
  cases L with
  | nil => exact absurd rfl h1
  | cons r L =>
    have key : ∀ (L : List RRec) (a : Int), 0 ≤ a → (∀ r ∈ L, 0 ≤ r.l) → 0 ≤ L.foldl (fun m x => min m x.l) a := by
      intro L
      induction L with
      | nil => intro a ha _; exact ha
      | cons x L ih => intro a ha hx; exact ih _ (by have := hx x (List.mem_cons_self ..); show 0 ≤ min a x.l; omega) fun r hr => hx r (List.mem_cons_of_mem _ hr)
    exact key L r.l (hl r (List.mem_cons_self ..)).1 fun x hx => (hl x (List.mem_cons_of_mem _ hx)).1
/-- The records of one name and type of a right zone. -/
theorem zone_near {z : Bs} {xs : List RRec} (h : zoneB z xs = true) {r : RRec} (hr : r ∈ xs) (n : ByteArray) (t : Int) (hn : n = r.n) (ht : t = r.t) :
    isName n.data.toList = true ∧ rightL (xs.filter (nearR t n)) ≠ [] ∧ ∀ x ∈ rightL (xs.filter (nearR t n)), x ∈ xs ∧ x.l ≤ 2147483647 ∧ okD t x.d.data.toList = true := by
  subst hn ht
  have hall := (zoneB_all h).2
  have hck : ∀ x ∈ xs, isName x.nb = true ∧ okD x.t x.db = true ∧ x.l ≤ 2147483647 := fun x hx => by
    obtain ⟨_, h41, _, hc, _⟩ := hall x hx
    unfold chkR at hc
    simp only [Bool.and_eq_true, Bool.or_eq_true, decide_eq_true_eq] at hc
    exact ⟨hc.1, hc.2.1, hc.2.2.resolve_right h41⟩
  refine ⟨(hck r hr).1, fun e => ?_, fun x hx => ?_⟩
  · have hm : r ∈ rightL (xs.filter (nearR r.t r.n)) := by
      unfold rightL
      refine List.mem_filter.2 ⟨List.mem_filter.2 ⟨hr, by unfold nearR; simp⟩, ?_⟩
      obtain ⟨h1, _, _, hc, _⟩ := hall r hr
      unfold rightB
      rw [hc, decide_eq_true h1]
      rfl
    rw [e] at hm
    cases hm
  · have h1 := (List.mem_filter.1 hx).1
    have h2 := List.mem_filter.1 h1
    have h3 : x.t = r.t := by
      have := h2.2
      unfold nearR at this
      simp only [Bool.and_eq_true, decide_eq_true_eq] at this
      exact this.1
    have h4 := hck x h2.1
    exact ⟨h2.1, h4.2.2, by rw [← h3]; exact h4.2.1⟩

/-! ### Cuts -/
theorem ddF_strict {α κ : Type} [DecidableEq κ] {key : α → κ} {c : κ → κ → Int} (T : TotC c) : ∀ (S : List α) (pv : Option κ), SrtK key c S → (∀ k, pv = some k → ∀ y ∈ S, ¬ c (key y) k < 0) →
    (ddF key pv S).Pairwise (fun x y => c (key x) (key y) < 0) ∧ (∀ y ∈ ddF key pv S, y ∈ S) ∧ ∀ k, pv = some k → ∀ y ∈ ddF key pv S, c k (key y) < 0
  | [], _, _, _ => ⟨List.Pairwise.nil, fun y hy => hy, fun _ _ y hy => absurd hy List.not_mem_nil⟩
  | y :: l, pv, hS, hp => by
    have hSl : SrtK key c l := (List.pairwise_cons.1 hS).2
    have hSy : ∀ z ∈ l, ¬ c (key z) (key y) < 0 := (List.pairwise_cons.1 hS).1
    obtain ⟨h1, h2, h3⟩ := ddF_strict T l (some (key y)) hSl (fun k hk z hz => by cases hk; exact hSy z hz)
    by_cases he : pv = some (key y)
    · have e : ddF key pv (y :: l) = ddF key (some (key y)) l := by
        conv => lhs; unfold ddF
        rw [if_pos he]
      rw [e]
      exact ⟨h1, fun z hz => List.mem_cons_of_mem _ (h2 z hz), fun k hk z hz => by rw [he] at hk; exact h3 k hk z hz⟩
    · have e : ddF key pv (y :: l) = y :: ddF key (some (key y)) l := by
        conv => lhs; unfold ddF
        rw [if_neg he]
      rw [e]
      have hky : ∀ k, pv = some k → c k (key y) < 0 := fun k hk => by
        have a1 := hp k hk y (by simp)
        have a2 := T.anti k (key y)
        have a3 : c k (key y) ≠ 0 := fun h0 => he (by rw [hk, (T.zero _ _).1 h0])
        omega
      refine ⟨List.pairwise_cons.2 ⟨fun z hz => h3 _ rfl z hz, h1⟩, fun z hz => ?_, fun k hk z hz => ?_⟩
      · rcases List.mem_cons.1 hz with rfl | hz
        · simp
        · exact List.mem_cons_of_mem _ (h2 z hz)
      · rcases List.mem_cons.1 hz with rfl | hz
        · exact hky k hk
        · exact T.trans _ _ _ (hky k hk) (h3 _ rfl z hz)
theorem sortN_strict (l : List Bs) : (sortN l).Pairwise (fun x y => cmpL (ris x) (ris y) < 0) ∧ (∀ y ∈ sortN l, y ∈ l ∧ isName y = true) ∧ (sortN l).length ≤ l.length := by
  unfold sortN
  have hs := sortK_spec (key := ris) cmpL_tot (l.filter isName)
  obtain ⟨h1, h2, _⟩ := ddF_strict (key := ris) cmpL_tot (sortK ris cmpL (l.filter isName)) none hs.1 (fun k hk => by cases hk)
  refine ⟨h1, fun y hy => List.mem_filter.1 (hs.2.mem (h2 y hy)), ?_⟩
  have e1 := ddF_length ris (sortK ris cmpL (l.filter isName)) none
  have e2 := hs.2.len
  have e3 := List.length_filter_le isName l
  omega
theorem cuts_len (z : Bs) (xs : List RRec) : (cutsN z xs).length ≤ xs.length := by
  have h1 := (sortN_strict ((cutsR z xs).map fun x => x.data.toList)).2.2
  have h2 : (cutsR z xs).length ≤ xs.length := by unfold cutsR; rw [List.length_map]; exact List.length_filter_le _ _
  unfold cutsN
  rw [List.length_map] at h1
  omega
theorem cuts_mem {z : Bs} {xs : List RRec} {y : Bs} (h : y ∈ cutsN z xs) : ∃ r ∈ xs, r.t = 2 ∧ r.nb = y ∧ sameB r.nb z = false := by
  unfold cutsN at h
  have h1 := ((sortN_strict ((cutsR z xs).map fun x : ByteArray => x.data.toList)).2.1 y h).1
  obtain ⟨x, hx, rfl⟩ := List.mem_map.1 h1
  obtain ⟨r, hr, rfl⟩ := List.mem_map.1 hx
  obtain ⟨hm, hc⟩ := List.mem_filter.1 hr
  unfold zcF at hc
  simp only [Bool.and_eq_true, Bool.not_eq_true', decide_eq_true_eq] at hc
  exact ⟨r, hm, hc.1, rfl, hc.2⟩
theorem ris_fold {a b : Bs} (h : foldB a = foldB b) : ris a = ris b := by unfold ris; rw [h]
theorem within_self {a : Bs} (h : isName a = true) : withinB a a = true := by
  rw [within_iff]
  exact ⟨h, h, List.suffix_refl _⟩
theorem same_fold {a z : Bs} (ha : isName a = true) (hz : isName z = true) (h : sameB a z = false) : foldB a ≠ foldB z := fun e => by
  have hl : a.length = z.length := by have h9 := congrArg List.length e; rwa [foldB_length, foldB_length] at h9
  unfold sameB at h
  rw [ha, hz, decide_eq_true hl] at h
  simp [e] at h
/-- What a cut of a right zone is. -/
structure CutK (z : Bs) (xs : List RRec) (c : Bs) : Prop where
  name : isName c = true
  self : withinB c c = true
  rec_ : ∃ r ∈ xs, r.t = 2 ∧ r.nb = c
  only : ∀ y ∈ cutsN z xs, withinB c y = true → y = c
  deep : withinB c z = true ∧ (namL z).length < (namL c).length
theorem cutK_of {z : Bs} {xs : List RRec} (h : zoneB z xs = true) {c : Bs} (hc : c ∈ cutsN z xs) : CutK z xs c := by
  obtain ⟨r, hr, ht, rfl, hs⟩ := cuts_mem hc
  obtain ⟨hz, hall⟩ := zoneB_all h
  have hnm : ∀ x ∈ xs, isName x.nb = true := fun x hx => ((within_iff _ _).1 (hall x hx).2.2.2.2).1
  have hw := (hall r hr).2.2.2.2
  have hf := same_fold (hnm r hr) hz hs
  refine ⟨hnm r hr, within_self (hnm r hr), ⟨r, hr, ht, rfl⟩, fun y hy hwy => ?_, hw, ?_⟩
  · obtain ⟨r', hr', ht', rfl, hs'⟩ := cuts_mem hy
    have hf' := same_fold (hnm r' hr') hz hs'
    have he := ris_fold (zoneB_cut h hr hr' ht ht' hf hf' hwy)
    have hpw := (sortN_strict ((cutsR z xs).map fun x => x.data.toList)).1
    obtain ⟨i, hi, h1⟩ := List.getElem_of_mem hc
    obtain ⟨j, hj, h2⟩ := List.getElem_of_mem hy
    have h0 : cmpL (ris r'.nb) (ris r.nb) = 0 := by rw [he]; exact (cmpL_tot.zero _ _).2 rfl
    have h00 : cmpL (ris r.nb) (ris r'.nb) = 0 := by rw [he]; exact (cmpL_tot.zero _ _).2 rfl
    have hpw := List.pairwise_iff_getElem.1 hpw
    rcases Nat.lt_trichotomy i j with hij | hij | hij
    · have h3 := hpw i j hi hj hij
      unfold cutsN at h1 h2
      rw [h1, h2] at h3
      omega
    · subst hij
      rw [← h2, h1]
    · have h3 := hpw j i hj hi hij
      unfold cutsN at h1 h2
      rw [h1, h2] at h3
      omega
  · rw [namL_yes hz, namL_yes (hnm r hr)]
    obtain ⟨_, _, p, hp⟩ := (within_iff _ _).1 hw
    have hl := congrArg List.length hp
    rw [List.length_append, List.length_map, List.length_map] at hl
    rcases Nat.eq_zero_or_pos p.length with h0 | h0
    · have hp0 := List.eq_nil_of_length_eq_zero h0
      subst hp0
      exfalso
      apply hf
      have e1 := isName_eq (l := foldB r.nb) (by rw [isName_fold]; exact hnm r hr)
      have e2 := isName_eq (l := foldB z) (by rw [isName_fold]; exact hz)
      rw [labs_fold] at e1 e2
      rw [e1, e2]
      rw [List.nil_append] at hp
      show enc ((labs r.nb).1.map foldB) ++ [0] = enc ((labs z).1.map foldB) ++ [0]
      rw [hp]
    · omega
theorem cut_depth {z : Bs} {xs : List RRec} {c : Bs} (h : CutK z xs c) : 0 < depthN c z := by
  unfold depthN
  rw [if_pos h.deep.1]
  have := h.deep.2
  omega
/-- The deepest of a name's copies is that name. -/
theorem deep_rep {c : Bs} (h : isName c = true) {m : Nat} (hm : 0 < m) : deepP c (List.replicate m c) = (c, 0) := by
  have hs : ∀ m, deepS c (List.replicate (m + 1) c) = (c, ((namL c).length : Int)) := fun m => by
    induction m with
    | zero =>
      show deepF c ([], -1) c = _
      unfold deepF
      rw [if_pos (within_self h), if_pos (by omega)]
    | succ m ih =>
      rw [List.replicate_succ', deepS_snoc, ih]
      unfold deepF
      rw [if_pos (within_self h), if_neg (by omega)]
  obtain ⟨k, rfl⟩ : ∃ k, m = k + 1 := ⟨m - 1, by omega⟩
  unfold deepP
  rw [if_pos h, hs k, if_neg (by omega)]
end Go.Proofs.YthnngndnpigjbaaGreat

namespace Go.Proofs.YthnngndnpigjbaaGreat
open Go.RowKit Go.Lib Go.Maps

def Small22P (z : ByteArray) (xs : List RRec) (w : World) (e : Ending) (w' : World) : Prop := (e = .returned (.int .i64 0) ∨ e = .returned (.int .i64 1) ∧ (z.size ≤ 1000 ∧ xs.length ≤ 60) ∧ ∀ r ∈ xs, r.small) ∧ Below w.heap.size w w'
set_option maxRecDepth 100000 in
set_option maxHeartbeats 4000000 in
theorem small22_any (z : ByteArray) (A : Option Addr) (c : Nat) (xs : List RRec) (w : World) (hz : z.size ≤ maxLen) (hT : RTab w A xs) (hs : ∀ r ∈ xs, r.n.size ≤ maxLen ∧ r.d.size ≤ maxLen) (hl : xs.length ≤ maxLen) :
    Calls Tryz.prog 5 #[.agg #[.string z, .slice A xs.length c]] w (Small22P z xs w) := by
  have HT := Lib.hid (And.intro hT hs)
  have hlI : (xs.length : Int) ≤ 9223372036854775807 := by unfold maxLen at hl; omega
  have hzI : (z.size : Int) ≤ 9223372036854775807 := by unfold maxLen at hz; omega
  have HB0 := Lib.hid (show Below w.heap.size w (w.alloc (.cells #[.string z, .slice A xs.length c] 24)) from (Below.refl _ _).alloc (Nat.le_refl _) _)
  clear hT hs hl hz
  go_enter Tryz.func5, Tryz.ntmps5
  by_cases hz1 : 1000 < z.size
  · have hzz : (1000 : Int) < (z.size : Int) := by omega
    clear hz1
    go_wp2_with (fail)
    go_ret
    exact ⟨.inl rfl, HB0.out⟩
  have hzz : ¬ (1000 : Int) < (z.size : Int) := by omega
  by_cases hl1 : 60 < xs.length
  · have hll : (60 : Int) < (xs.length : Int) := by omega
    clear hz1 hl1
    go_wp2_with (fail)
    go_ret
    exact ⟨.inl rfl, HB0.out⟩
  have hll : ¬ (60 : Int) < (xs.length : Int) := by omega
  have HZ := Lib.hid (show z.size ≤ 1000 ∧ xs.length ≤ 60 by omega)
  clear hz1 hl1
  go_wp2_with (fail)
  go_loopg [18] xs.length (fun gg v18 wr => ∃ k : Nat, v18 = .int .i64 (k : Int) ∧ Aside (gg + k = xs.length) ∧ Aside (∀ r ∈ xs.take k, r.small) ∧ Aside (Below w.heap.size w wr))
  case atStart => exact ⟨0, rfl, (by show _ = _; omega), (fun r hr => by simp at hr), HB0.out⟩
  case round =>
    obtain ⟨k, rfl, hg, hsm, hB⟩ := hrel
    by_cases hlt : k < xs.length
    · have hltI : (k : Int) < (xs.length : Int) := by omega
      obtain ⟨r, hr⟩ : ∃ r, xs[k]? = some r := ⟨_, List.getElem?_eq_getElem hlt⟩
      have hTr := HT.out.1.below hB.out
      obtain ⟨b, off, rfl, hbl, c0, c1, c2, c3, c4⟩ := hTr.cells hr
      have hrs := HT.out.2 r (List.mem_of_getElem? hr)
      have hnI : (r.n.size : Int) ≤ 9223372036854775807 := by have := hrs.1; unfold maxLen at this; omega
      have hdI : (r.d.size : Int) ≤ 9223372036854775807 := by have := hrs.2; unfold maxLen at this; omega
      have HX := Lib.hid (And.intro hr hlt)
      have HB := Lib.hid (hB.out.alloc hB.out.size (.cells #[.string r.n, .int .u16 r.t, .int .u16 r.c, .int .u32 r.l, .string r.d] 33))
      clear hr hlt hTr hrs
      by_cases hd : 5000 < r.d.size
      · have hdd : (5000 : Int) < (r.d.size : Int) := by omega
        clear hd
        go_wp2_with (fail)
        go_ret
        exact ⟨.inl rfl, HB.out⟩
      · have hdd : ¬ (5000 : Int) < (r.d.size : Int) := by omega
        by_cases hn : 1000 < r.n.size
        · have hnn : (1000 : Int) < (r.n.size : Int) := by omega
          clear hd hn
          go_wp2_with (fail)
          go_ret
          exact ⟨.inl rfl, HB.out⟩
        · have hnn : ¬ (1000 : Int) < (r.n.size : Int) := by omega
          have HS := Lib.hid (show r.small from ⟨by omega, by omega⟩)
          clear hd hn
          go_wp2_with (fail)
          go_roundg (xs.length - (k + 1))
          case measure => have := hg.out; have := HX.out.2; omega
          case rel => exact ⟨k + 1, by go_num, (by have := hg.out; have := HX.out.2; show _ = _; omega), allr_step hsm.out HX.out.1 HS.out, HB.out⟩
    · have hke : k = xs.length := by have := hg.out; omega
      subst hke
      have HE := Lib.hid (And.intro hsm.out hB.out)
      clear hsm hB hg hlt
      go_wp2_with (fail)
      go_ret
      exact ⟨.inr ⟨rfl, HZ.out, fun r hr => HE.out.1 r (by rw [List.take_length]; exact hr)⟩, HE.out.2⟩
theorem code0 : wrap64 (bits .and .u16 0 15) = 0 := by decide +kernel
set_option maxRecDepth 100000 in
theorem mCode_any (m : MRec) (hb : m.bi = 0) (w : World) : Calls Tryz.prog 17 #[m.val] w fun e w' => e = .returned (.int .i64 0) ∧ Below w.heap.size w w' := by
  dsimp only [MRec.val]
  rw [hb]
  go_enter Tryz.func17, Tryz.ntmps17
  go_wp2_with (fail)
  go_ret
  exact ⟨(by show Ending.returned (.int .i64 (wrap64 (bits .and .u16 0 15))) = _; rw [code0]), (Below.refl _ _).alloc (Nat.le_refl _) _⟩
set_option maxRecDepth 100000 in
set_option maxHeartbeats 4000000 in
theorem records_any (n : ByteArray) (t l : Int) (A : Option Addr) (ds : List ByteArray) (c : Nat) (w : World) (hn : n.size ≤ maxLen) (hT : STab w A ds) (hok : setOk n t l ds = true) :
    Calls Tryz.prog 9 #[setV n t l A ds c] w (CollPostR (recsR n t l ds) w) := by
  obtain ⟨i0, hi0, hz0, hz1, hz2⟩ := info_parts info_rr
  have hK := setK_of hok
  have hlI : (ds.length : Int) ≤ 64 := by have := hK.len; omega
  obtain ⟨mk, hmk, hmk2⟩ : ∃ f : World → World, (∀ W, (Instr.makeSlice 22 (.int .i64 0) (.int .i64 (ds.length : Int))).run Tryz.prog W = .ok (.slice (some ⟨W.heap.size, 0, none⟩) 0 ds.length) (f W)) ∧ ∀ W, (f W).ownsRow W.heap.size 33 5 (.slice (some ⟨W.heap.size, 0, none⟩) 0 ds.length) 0 [] ∧ W.grownBy (f W) none := by
    have H := fun W : World => run_make_own (P := Tryz.prog) (w := W) W.heap.size 22 33 i0 (.agg #[.string ⟨#[]⟩, .int .u16 0, .int .u16 0, .int .u32 0, .string ⟨#[]⟩]) 5 Tryz.underlying22 hi0 hz0 hz1 .i64 .i64 ds.length (by rw [hz2]; omega) (by unfold maxLen; omega) (Nat.le_refl _)
    exact ⟨fun W => Classical.choose (H W), fun W => (Classical.choose_spec (H W)).1, fun W => (Classical.choose_spec (H W)).2⟩
  have hds : ∀ d ∈ ds, d.size ≤ maxLen := fun d hd => by have := okD_len (hK.dat d hd); have := bsize d; unfold maxLen; omega
  have HC := Lib.hid (fun W (hW : Below w.heap.size w W) => checkS_any n t l A ds c W hn (hT.below hW) hds (by omega))
  rw [setOk_yes hok] at HC
  have HK := Lib.hid (And.intro hT (And.intro hmk2 hK))
  obtain ⟨R, hR⟩ : ∃ R, recsR n t l ds = R := ⟨_, rfl⟩
  have hRl : R.length = ds.length := by rw [← hR, recsR_len]
  have HR := Lib.hid (And.intro hR hRl)
  rw [hR]
  clear hn hT hok hK hmk2 hds hR hRl
  dsimp only [setV] at HC ⊢
  go_enter Tryz.func9, Tryz.ntmps9
  go_upto_region 1 with (fail)
  obtain ⟨W1, hW1⟩ : ∃ W1, w.alloc (.cells #[.string n, .int .u16 t, .int .u32 l, .slice A ds.length c] 36) = W1 := ⟨_, rfl⟩
  have hb1 : Below w.heap.size w W1 := by rw [← hW1]; exact (Below.refl _ _).alloc (Nat.le_refl _) _
  have k1 : Blk W1 w.heap.size 36 #[.string n, .int .u16 t, .int .u32 l, .slice A ds.length c] := by rw [← hW1]; exact Blk.new _ _ _
  rw [hW1]
  clear hW1
  have x0 := k1.cell 0; have x1 := k1.cell 1; have x2 := k1.cell 2; have x3 := k1.cell 3
  have H1 := Lib.hid (And.intro hb1 k1)
  clear hb1 k1
  go_wp2_with (fail)
  with_reducible refine (HC.out _ H1.out.1).mono ?_
  rintro e w2 ⟨rfl, hb⟩
  have H2 := Lib.hid (And.intro (H1.out.1.trans (hb.mono H1.out.1.size)) (H1.out.2.below hb H1.out.2.lt))
  clear hb x0 x1 x2 x3
  have x3 := H2.out.2.cell 3
  go_upto_region 4 with (fail)
  obtain ⟨W3, hW3⟩ : ∃ W3, mk w2 = W3 := ⟨_, rfl⟩
  rw [hW3]
  have g3 := HK.out.2.1 w2
  rw [hW3] at g3
  have hb3 : Below w2.heap.size w2 W3 := (Below.refl _ _).grown g3.2 (Nat.le_refl _) (fun g hg => by cases hg)
  have k3 := H2.out.2.below hb3 H2.out.2.lt
  have H3 := Lib.hid (And.intro (H2.out.1.trans (hb3.mono H2.out.1.size)) (And.intro k3 (And.intro (Sl.of_own g3.1) (show w.heap.size ≤ w2.heap.size from H2.out.1.size))))
  clear g3 hb3 hW3 hmk x3
  have y3 := k3.cell 3
  have hk3 := k3.lt
  clear k3
  go_wp2_with (fail)
  go_loopg [3, 5, 16] ds.length (fun gg v3 v5 v16 wr => ∃ (k : Nat) (Al : Option Addr) (cl : Nat), v16 = .int .i64 (k : Int) ∧ v3 = .slice Al k cl ∧ Aside (gg + k = ds.length) ∧ Aside (Blk wr w.heap.size 36 #[.string n, .int .u16 t, .int .u32 l, .slice A ds.length c]) ∧ Aside (Below w.heap.size w wr) ∧ Aside (Sl wr 5 (.slice Al k cl) k (flatV RRec.vs (R.take k))) ∧ Aside (∀ g, (Value.slice Al k cl).ownBlock = some g → w.heap.size < g))
  case atStart => exact ⟨0, _, _, rfl, rfl, (by show _ = _; omega), H3.out.2.1, H3.out.1, H3.out.2.2.1, fun g hg => by have h9 : w2.heap.size = g := Option.some.inj hg; have := H2.out.2.lt; omega⟩
  case round =>
    obtain ⟨k, Al, cl, rfl, rfl, hg, hbk, hb, hs, ho⟩ := hrel
    by_cases hlt : k < ds.length
    · have hltI : (k : Int) < (ds.length : Int) := by omega
      obtain ⟨x, hx⟩ : ∃ x, ds[k]? = some x := ⟨_, List.getElem?_eq_getElem hlt⟩
      obtain ⟨b, off, rfl, hbl, hcl⟩ := (HK.out.1.below hb.out) (by simpa using (show 0 < ds.length by omega))
      have cx : wr.cell? ⟨b, off + k, none⟩ = some (.string x) := hcl k _ (by rw [List.getElem?_map, hx]; rfl)
      have hbl2 : b < wr.heap.size := hbl
      have z0 := hbk.out.cell 0; have z1 := hbk.out.cell 1; have z2 := hbk.out.cell 2
      have hRx : R[k]? = some ⟨n, t, 1, l, x⟩ := by rw [← HR.out.1]; unfold recsR; rw [List.getElem?_map, hx]; rfl
      have HSL := Lib.hid (hs.out.alloc (.cells #[.string n, .int .u16 t, .int .u16 1, .int .u32 l, .string x] 33))
      have HSR := Lib.hid (src_rr (P := Tryz.prog) Tryz.underlying22 wr 33 n x t 1 l)
      have HX := Lib.hid (And.intro hRx hlt)
      clear hRx hlt hx hcl hbl
      go_wp2_with (at_builtin; go_must (refine wpList_append_sl _ rfl (.tmp 20) (.tmp 29) 22 22 rfl 33 i0 (.agg #[.string ⟨#[]⟩, .int .u16 0, .int .u16 0, .int .u32 0, .string ⟨#[]⟩]) 5 40 Tryz.underlying22 hi0 hz0 hz1 hz2 rfl (.slice Al k cl) k (flatV RRec.vs (R.take k)) rfl HSL.out _ rfl 1 (flatV RRec.vs [⟨n, t, 1, l, x⟩]) HSR.out (by unfold maxLen; omega) (by omega) ?_); intro v3 w9 hs3 hg3 hv3; obtain ⟨A3, c3, rfl, hc3, hm3⟩ := hs3.shape; have H9 := Lib.hid (And.intro hs3 (And.intro hg3 hv3)); clear hs3 hg3 hv3 hc3 hm3)
      go_roundg (ds.length - (k + 1))
      case measure => have := hg.out; have := HX.out.2; omega
      case rel =>
        obtain ⟨hs3, hg3, hv3⟩ := H9.out
        have hbA : Below w.heap.size w (wr.alloc (.cells #[.string n, .int .u16 t, .int .u16 1, .int .u32 l, .string x] 33)) := hb.out.alloc hb.out.size _
        have hlk := hbk.out.lt
        refine ⟨k + 1, A3, c3, by go_num, rfl, (show ds.length - (k + 1) + (k + 1) = ds.length by have := HX.out.2; omega), ?_, hbA.grown hg3 hbA.size (fun g hg => Nat.le_of_lt (ho.out g hg)), ?_, fun g hg => ?_⟩
        · exact (hbk.out.alloc _).grown hg3 (fun e => by have := ho.out _ e.symm; omega)
        · show Sl w9 5 _ _ _
          rw [List.take_add_one, HX.out.1]
          show Sl w9 5 _ _ (flatV RRec.vs (R.take k ++ [_]))
          rw [flatV_append]
          exact hs3
        · rcases hv3 with e | e
          · rw [e] at hg; exact ho.out g hg
          · rw [e] at hg; injection hg with hg; have := hbA.size; simp at hg; omega
    · have hltI : ¬ (k : Int) < (ds.length : Int) := by omega
      have hke : k = ds.length := by have := hg.out; omega
      subst hke
      go_wp2_with (fail)
      go_ret
      have hs9 := hs.out
      rw [List.take_of_length_le (by rw [HR.out.2]; exact Nat.le_refl _)] at hs9
      rw [← HR.out.2] at hs9 ⊢
      exact ⟨Al, cl, rfl, hs9, fun g hg => Nat.le_of_lt (ho.out g (by rw [HR.out.2] at hg; exact hg)), hb.out⟩
end Go.Proofs.YthnngndnpigjbaaGreat

namespace Go.Proofs.YthnngndnpigjbaaGreat
open Go.RowKit Go.Lib Go.Maps

/-- The set that was told is laid into the result's box. -/
theorem got_store {n : ByteArray} {t l : Int} {ds : List ByteArray} {w W1 w2 : World} {e : Ending} (h : GotP n t l ds W1 e w2) (hb : Below w.heap.size w W1) {b : Nat} (hwb : w.heap.size ≤ b) (hr : Blk W1 b 36 #[.string ⟨#[]⟩, .int .u16 0, .int .u32 0, .slice none 0 0]) :
    ∃ (Ad : Option Addr) (cd : Nat), e = .returned (.tuple #[.agg #[.string n, .int .u16 t, .int .u32 l, .slice Ad ds.length cd], .int .i64 0]) ∧ Blk w2 b 36 #[.string ⟨#[]⟩, .int .u16 0, .int .u32 0, .slice none 0 0] ∧
      Blk ((((w2.setCell ⟨b, 0, none⟩ (.string n)).setCell ⟨b, 1, none⟩ (.int .u16 t)).setCell ⟨b, 2, none⟩ (.int .u32 l)).setCell ⟨b, 3, none⟩ (.slice Ad ds.length cd)) b 36 #[.string n, .int .u16 t, .int .u32 l, .slice Ad ds.length cd] ∧
      GotP n t l ds w (.returned (.tuple #[.agg #[.string n, .int .u16 t, .int .u32 l, .slice Ad ds.length cd], .int .i64 0])) ((((w2.setCell ⟨b, 0, none⟩ (.string n)).setCell ⟨b, 1, none⟩ (.int .u16 t)).setCell ⟨b, 2, none⟩ (.int .u32 l)).setCell ⟨b, 3, none⟩ (.slice Ad ds.length cd)) := by
  obtain ⟨Ad, cd, rfl, h5, h6, h7⟩ := h
  have hlb := hr.lt
  have hr2 := hr.below h7 hlb
  refine ⟨Ad, cd, rfl, hr2, ?_, Ad, cd, rfl, ?_, fun g hg => Nat.le_trans hb.size (h6 g hg), ?_⟩
  · have h9 := (((hr2.set_ 0 (.string n)).set_ 1 (.int .u16 t)).set_ 2 (.int .u32 l)).set_ 3 (.slice Ad ds.length cd)
    simpa using h9
  · refine h5.keep (by simp [World.setCell]) fun g hg => ?_
    have hgb : g ≠ b := by have := h6 g hg; omega
    rw [Below.heap_setCell _ _ _ _ (show g ≠ b from hgb), Below.heap_setCell _ _ _ _ (show g ≠ b from hgb), Below.heap_setCell _ _ _ _ (show g ≠ b from hgb), Below.heap_setCell _ _ _ _ (show g ≠ b from hgb)]
  · exact ((((hb.trans (h7.mono hb.size)).setCell (p := ⟨b, 0, none⟩) hwb _).setCell (p := ⟨b, 1, none⟩) hwb _).setCell (p := ⟨b, 2, none⟩) hwb _).setCell (p := ⟨b, 3, none⟩) hwb _
def ChainP (n : ByteArray) (w : World) (e : Ending) (w' : World) : Prop := e = .returned (.tuple #[.slice none 0 0, .string n]) ∧ Below w.heap.size w w'
set_option maxRecDepth 100000 in
set_option maxHeartbeats 4000000 in
theorem chain_hit (n : ByteArray) (t l qc : Int) (ds : List ByteArray) (A : Option Addr) (k c : Nat) (w : World) (hF : ∀ W, Below w.heap.size w W → Calls Tryz.prog 16 #[.string n, .int .u16 t, .slice A k c] W (GotP n t l ds W)) :
    Calls Tryz.prog 18 #[.agg #[.string n, .int .u16 t, .int .u16 qc], .slice A k c] w (ChainP n w) := by
  have HF := Lib.hid hF
  clear hF
  obtain ⟨y, hy⟩ : ∃ y, (t == 5) = y := ⟨_, rfl⟩
  go_enter Tryz.func18, Tryz.ntmps18
  go_upto_region 1 with (fail)
  obtain ⟨W1, hW1⟩ : ∃ W1, w.alloc (.cells #[.string n, .int .u16 t, .int .u16 qc] 40) = W1 := ⟨_, rfl⟩
  have hb1 : Below w.heap.size w W1 := by rw [← hW1]; exact (Below.refl _ _).alloc (Nat.le_refl _) _
  have k1 : Blk W1 w.heap.size 40 #[.string n, .int .u16 t, .int .u16 qc] := by rw [← hW1]; exact Blk.new _ _ _
  rw [hW1]
  clear hW1
  have x0 := k1.cell 0; have x1 := k1.cell 1
  have H1 := Lib.hid (And.intro hb1 k1)
  clear hb1 k1
  go_wp2_with (fail)
  refine wp_scope_straight ?_
  go_wp2_with (fail)
  refine wp_label ?_
  go_wp2_with (fail)
  go_loopg [6, 7, 9, 24] 1 (fun gg v6 v7 v9 v24 wr => v6 = .slice none 0 0 ∧ v7 = .string n ∧ Aside (Below w.heap.size w wr ∧ Blk wr w.heap.size 40 #[.string n, .int .u16 t, .int .u16 qc]))
  case atStart => exact ⟨rfl, rfl, H1.out⟩
  case round =>
    obtain ⟨rfl, rfl, hB⟩ := hrel
    have q1 := hB.out.2.cell 1
    clear x0 x1
    go_wp2_with (fail)
    with_reducible refine (HF.out _ hB.out.1).mono ?_
    intro e w3 hf
    obtain ⟨Ad, cd, rfl, h5, h6, h7⟩ := hf
    have hq3 := hB.out.2.below h7 hB.out.2.lt
    have H3 := Lib.hid (And.intro (hB.out.1.trans (h7.mono hB.out.1.size)) hq3)
    clear q1
    have q1 := hq3.cell 1
    have hql := hq3.lt
    clear hq3 h5 h6 h7
    dsimp only [setV]
    cases y with
    | true =>
      go_wp2_with (fail)
      go_ret2
      exact ⟨rfl, H3.out.1.alloc H3.out.1.size _⟩
    | false =>
      go_wp2_with (fail)
      go_ret2
      exact ⟨rfl, H3.out.1.alloc H3.out.1.size _⟩
set_option maxRecDepth 100000 in
set_option maxHeartbeats 4000000 in
theorem chain_none (n : ByteArray) (t qc : Int) (ht : t ≠ 5) (A : Option Addr) (k c : Nat) (w : World) (hF : ∀ ty W, Below w.heap.size w W → Calls Tryz.prog 16 #[.string n, .int .u16 ty, .slice A k c] W (NoSet W)) :
    Calls Tryz.prog 18 #[.agg #[.string n, .int .u16 t, .int .u16 qc], .slice A k c] w (ChainP n w) := by
  have HF := Lib.hid hF
  have hy : (t == 5) = false := by simp [ht]
  clear hF ht
  go_enter Tryz.func18, Tryz.ntmps18
  go_upto_region 1 with (fail)
  obtain ⟨W1, hW1⟩ : ∃ W1, w.alloc (.cells #[.string n, .int .u16 t, .int .u16 qc] 40) = W1 := ⟨_, rfl⟩
  have hb1 : Below w.heap.size w W1 := by rw [← hW1]; exact (Below.refl _ _).alloc (Nat.le_refl _) _
  have k1 : Blk W1 w.heap.size 40 #[.string n, .int .u16 t, .int .u16 qc] := by rw [← hW1]; exact Blk.new _ _ _
  rw [hW1]
  clear hW1
  have x0 := k1.cell 0; have x1 := k1.cell 1
  have H1 := Lib.hid (And.intro hb1 k1)
  clear hb1 k1
  go_wp2_with (fail)
  refine wp_scope_straight ?_
  go_wp2_with (fail)
  refine wp_label ?_
  go_wp2_with (fail)
  go_loopg [6, 7, 9, 24] 1 (fun gg v6 v7 v9 v24 wr => v6 = .slice none 0 0 ∧ v7 = .string n ∧ Aside (Below w.heap.size w wr ∧ Blk wr w.heap.size 40 #[.string n, .int .u16 t, .int .u16 qc]))
  case atStart => exact ⟨rfl, rfl, H1.out⟩
  case round =>
    obtain ⟨rfl, rfl, hB⟩ := hrel
    have q1 := hB.out.2.cell 1
    clear x0 x1
    go_wp2_with (fail)
    with_reducible refine (HF.out _ _ hB.out.1).mono ?_
    intro e w3 hf
    obtain ⟨rfl, h7⟩ := hf
    have hq3 := hB.out.2.below h7 hB.out.2.lt
    have H3 := Lib.hid (And.intro (hB.out.1.trans (h7.mono hB.out.1.size)) hq3)
    clear q1
    have q1 := hq3.cell 1
    have hql := hq3.lt
    have H4 := Lib.hid (H3.out.1.alloc H3.out.1.size (.cells #[.string ⟨#[]⟩, .int .u16 0, .int .u32 0, .slice none 0 0] 36))
    clear hq3 h7
    go_wp2_with (fail)
    with_reducible refine (HF.out _ _ H4.out).mono ?_
    intro e w5 hf
    obtain ⟨rfl, h7⟩ := hf
    have H5 := Lib.hid (H4.out.trans (h7.mono H4.out.size))
    clear h7 q1
    go_wp2_with (fail)
    go_ret2
    exact ⟨rfl, H5.out.alloc H5.out.size _⟩
theorem find_none (n : ByteArray) (hn : n.size ≤ 1000000) (ty : Int) (w : World) : Calls Tryz.prog 16 #[.string n, .int .u16 ty, .slice none 0 0] w (NoSet w) := by
  have hf := findS_any stable_all n ty none 0 [] w RTab.nil_ (by decide) (by decide) hn (fun r hr => by cases hr)
  refine Calls.mono hf fun e w' h => ?_
  rcases h with ⟨_, h⟩ | ⟨_, _, h⟩ | ⟨_, h, _⟩
  · exact h
  · exact h
  · exact absurd rfl h
end Go.Proofs.YthnngndnpigjbaaGreat

namespace Go.Proofs.YthnngndnpigjbaaGreat
open Go.RowKit Go.Lib Go.Maps

/-- What is known of a message whose heads are the records of one set of NS, asked for its name. -/
structure RefK (m : MRec) (n z : ByteArray) (l : Int) (ds : List ByteArray) (w : World) : Prop where
  i : m.In w
  h : m.h = recsR n 2 l ds
  b : m.bi = 0
  n1 : n.size ≤ 1000000
  z1 : z.size ≤ 1000000
  k : SetK n 2 l ds
  l0 : 0 ≤ l
  d : 0 < depthN n.data.toList z.data.toList
theorem RefK.below {m : MRec} {n z : ByteArray} {l : Int} {ds : List ByteArray} {w w' : World} (h : RefK m n z l ds w) (hb : Below w.heap.size w w') : RefK m n z l ds w' := ⟨h.i.below hb, h.h, h.b, h.n1, h.z1, h.k, h.l0, h.d⟩
theorem recs_sizes {n : ByteArray} {t l : Int} {ds : List ByteArray} (h : SetK n t l ds) (hn : n.size ≤ 1000000) (hl : 0 ≤ l) : ∀ r ∈ recsR n t l ds, r.n.size ≤ 1000000 ∧ r.d.size ≤ 1000000 ∧ 0 ≤ r.l ∧ r.l ≤ 4294967295 := fun r hr => by
  obtain ⟨d, hd, rfl⟩ := List.mem_map.1 hr
  have h1 := okD_len (h.dat d hd)
  have h2 := bsize d
  have h3 := h.ttl
  exact ⟨hn, (by show d.size ≤ 1000000; omega), hl, (by show l ≤ 4294967295; omega)⟩
theorem find_again (n : ByteArray) (t l : Int) (ds : List ByteArray) (A : Option Addr) (c : Nat) (w : World) (h : SetK n t l ds) (hn : n.size ≤ 1000000) (hl : 0 ≤ l) (hT : RTab w A (recsR n t l ds)) :
    Calls Tryz.prog 16 #[.string n, .int .u16 t, .slice A ds.length c] w (GotP n t l ds w) := by
  have hf := findS_any stable_all n t A c (recsR n t l ds) w hT (by rw [recsR_len]; have := h.len; omega) (by rw [recsR_len]; have := h.len; omega) hn (recs_sizes h hn hl)
  rw [recsR_len] at hf
  exact hf.mono fun e w' h' => got_again h h'
set_option maxRecDepth 100000 in
set_option maxHeartbeats 4000000 in
theorem refers_any (m : MRec) (n z : ByteArray) (qt qc l : Int) (ds : List ByteArray) (w : World) (hK : RefK m n z l ds w) :
    Calls Tryz.prog 22 #[m.val, .agg #[.string n, .int .u16 qt, .int .u16 qc], .string z] w (GotP n 2 l ds w) := by
  obtain ⟨j0, hj0, hy0, hy1, hy2⟩ := info_parts info_str
  have HC := Lib.hid (fun W => mCode_any m hK.b W)
  have HD := Lib.hid (fun W => Depth_any n z (by have := hK.n1; unfold maxLen; omega) (by have := hK.z1; unfold maxLen; omega) W)
  have hdp := hK.d
  obtain ⟨dp, hdpe⟩ : ∃ dp, depthN n.data.toList z.data.toList = dp := ⟨_, rfl⟩
  rw [hdpe] at HD hdp
  have hml : m.h.length = ds.length := by rw [hK.h, recsR_len]
  have hlI : (ds.length : Int) ≤ 64 := by have := hK.k.len; omega
  have hl0 : 0 < ds.length := hK.k.pos
  obtain ⟨bA, oA, hA, _⟩ := hK.i.th (by omega)
  have HK := Lib.hid (And.intro hK hA)
  clear hK hdpe
  dsimp only [MRec.val] at HC ⊢
  rw [hml, hA] at HC ⊢
  clear hA
  obtain ⟨W1, hW1⟩ : ∃ W1, ((w.alloc (.cells #[.int .u16 m.id, .int .u16 m.bi, .slice m.qA m.q.length m.qc, .slice m.sA m.s.length m.sc, .slice (some ⟨bA, oA, none⟩) ds.length m.hc, .slice m.eA m.e.length m.ec] 49)).alloc (.cells #[.string n, .int .u16 qt, .int .u16 qc] 40)).alloc (.cells #[.string ⟨#[]⟩, .int .u16 0, .int .u32 0, .slice none 0 0] 36) = W1 := ⟨_, rfl⟩
  have hz1 : W1.heap.size = w.heap.size + 3 := by rw [← hW1]; simp
  have hb1 : Below w.heap.size w W1 := by rw [← hW1]; exact (((Below.refl _ _).alloc (Nat.le_refl _) _).alloc (by simp) _).alloc (by simp; omega) _
  have m1 : Blk W1 w.heap.size 49 #[.int .u16 m.id, .int .u16 m.bi, .slice m.qA m.q.length m.qc, .slice m.sA m.s.length m.sc, .slice (some ⟨bA, oA, none⟩) ds.length m.hc, .slice m.eA m.e.length m.ec] := by rw [← hW1]; exact ((Blk.new w _ _).alloc _).alloc _
  have q1 : Blk W1 (w.heap.size + 1) 40 #[.string n, .int .u16 qt, .int .u16 qc] := by
    rw [← hW1]
    have := Blk.new (w.alloc (.cells #[.int .u16 m.id, .int .u16 m.bi, .slice m.qA m.q.length m.qc, .slice m.sA m.s.length m.sc, .slice (some ⟨bA, oA, none⟩) ds.length m.hc, .slice m.eA m.e.length m.ec] 49)) 40 #[.string n, .int .u16 qt, .int .u16 qc]
    rw [World.size_alloc] at this
    exact this.alloc _
  have r1 : Blk W1 (w.heap.size + 1 + 1) 36 #[.string ⟨#[]⟩, .int .u16 0, .int .u32 0, .slice none 0 0] := by
    rw [← hW1]
    have := Blk.new ((w.alloc (.cells #[.int .u16 m.id, .int .u16 m.bi, .slice m.qA m.q.length m.qc, .slice m.sA m.s.length m.sc, .slice (some ⟨bA, oA, none⟩) ds.length m.hc, .slice m.eA m.e.length m.ec] 49)).alloc (.cells #[.string n, .int .u16 qt, .int .u16 qc] 40)) 36 #[.string ⟨#[]⟩, .int .u16 0, .int .u32 0, .slice none 0 0]
    rw [World.size_alloc, World.size_alloc] at this
    exact this
  go_enter Tryz.func22, Tryz.ntmps22
  go_upto_region 1 with (fail)
  try rw [hW1]
  clear hW1
  have a0 := m1.cell 0; have a1 := m1.cell 1; have a2 := m1.cell 2; have a3 := m1.cell 3; have a4 := m1.cell 4; have a5 := m1.cell 5
  have H1 := Lib.hid (And.intro hb1 (And.intro m1 (And.intro q1 r1)))
  clear hb1 m1 q1 r1 hz1
  go_wp2_with (fail)
  with_reducible refine (HC.out _).mono ?_
  rintro e w2 ⟨rfl, hb⟩
  have hx2 := H1.out.2.1.below hb H1.out.2.1.lt
  have H2 := Lib.hid (And.intro (H1.out.1.trans (hb.mono H1.out.1.size)) (And.intro hx2 (And.intro (H1.out.2.2.1.below hb H1.out.2.2.1.lt) (H1.out.2.2.2.below hb H1.out.2.2.2.lt))))
  clear a0 a1 a2 a3 a4 a5 hb H1
  have a4 := hx2.cell 4
  clear hx2
  go_wp2_with (fail)
  go_loopg [8, 20] ds.length (fun gg v8 v20 wr => ∃ (k : Nat) (Al : Option Addr) (cl : Nat), v20 = .int .i64 (k : Int) ∧ v8 = .slice Al k cl ∧ Aside (gg + k = ds.length) ∧ Aside (Below w2.heap.size w2 wr) ∧ Aside (Sl wr 1 (.slice Al k cl) k ((List.replicate k n).map Value.string)) ∧ Aside (∀ g, (Value.slice Al k cl).ownBlock = some g → w2.heap.size ≤ g))
  case atStart => exact ⟨0, none, 0, rfl, rfl, (by show _ = _; omega), Below.refl _ _, Sl.nil _ _, fun g hg => by simp [Value.ownBlock] at hg⟩
  case round =>
    obtain ⟨k, Al, cl, rfl, rfl, hg, hb, hs, ho⟩ := hrel
    by_cases hlt : k < ds.length
    · have hltI : (k : Int) < (ds.length : Int) := by omega
      obtain ⟨dx, hdx⟩ : ∃ dx, ds[k]? = some dx := ⟨_, List.getElem?_eq_getElem hlt⟩
      have hbw : Below w.heap.size w wr := H2.out.1.trans (hb.out.mono H2.out.1.size)
      have hTr := (HK.out.1.i.below hbw).th
      have hx : m.h[k]? = some ⟨n, 2, 1, l, dx⟩ := by rw [HK.out.1.h]; unfold recsR; rw [List.getElem?_map, hdx]; rfl
      obtain ⟨b', off', hA', hbl, d0, d1, d2, d3, d4⟩ := hTr.cells hx
      have hck := (recs_right HK.out.1.k (List.mem_map.2 ⟨dx, List.mem_of_getElem? hdx, rfl⟩)).2.2.2.2.2
      have hdz : dx.size ≤ 140737488355328 := by have := okD_len (HK.out.1.k.dat dx (List.mem_of_getElem? hdx)); have := bsize dx; omega
      have HRC := Lib.hid (fun W => recCheck_any ⟨n, 2, 1, l, dx⟩ (by have := HK.out.1.n1; unfold maxLen; show n.size ≤ _; omega) hdz W)
      rw [codeR_yes hck] at HRC
      dsimp only [RRec.val] at HRC
      obtain ⟨W, hW⟩ : ∃ W, wr.alloc (.cells #[.string n, .int .u16 2, .int .u16 1, .int .u32 l, .string dx] 33) = W := ⟨_, rfl⟩
      have hbW : Below w2.heap.size w2 W := by rw [← hW]; exact hb.out.alloc hb.out.size _
      have hRR : Blk W wr.heap.size 33 #[.string n, .int .u16 2, .int .u16 1, .int .u32 l, .string dx] := by rw [← hW]; exact Blk.new _ _ _
      have hsW : Sl W 1 (.slice Al k cl) k ((List.replicate k n).map Value.string) := by rw [← hW]; exact hs.out.alloc _
      have HX := Lib.hid (And.intro hlt (And.intro hbW (And.intro hRR hsW)))
      rw [HK.out.2] at hA'
      injection hA' with hA'
      injection hA' with hA1 hA2 _
      subst hA1 hA2
      clear hlt hTr hbW hsW hx hdx hck hdz hbw
      dsimp only at d0 d1 d2 d3 d4
      go_upto_region 7 with (fail)
      try rw [hW]
      clear hW d0 d1 d2 d3 d4
      have c0 := hRR.cell 0; have c1 := hRR.cell 1; have c2 := hRR.cell 2; have c3 := hRR.cell 3; have c4 := hRR.cell 4
      clear hRR
      go_wp2_with (fail)
      with_reducible refine (HD.out _).mono ?_
      rintro e w5 ⟨rfl, hb5⟩
      have hRR5 := HX.out.2.2.1.below hb5 HX.out.2.2.1.lt
      have H5 := Lib.hid (And.intro (HX.out.2.1.trans (hb5.mono HX.out.2.1.size)) (And.intro hRR5 (HX.out.2.2.2.below hb5 HX.out.2.2.2.lt)))
      clear c0 c1 c2 c3 c4 hb5
      have c0 := hRR5.cell 0; have c1 := hRR5.cell 1; have c2 := hRR5.cell 2; have c3 := hRR5.cell 3; have c4 := hRR5.cell 4
      clear hRR5
      go_wp2_with (fail)
      with_reducible refine (HRC.out _).mono ?_
      rintro e w6 ⟨rfl, hb6⟩
      have hRR6 := H5.out.2.1.below hb6 H5.out.2.1.lt
      have H6 := Lib.hid (And.intro (H5.out.1.trans (hb6.mono H5.out.1.size)) (H5.out.2.2.below hb6 H5.out.2.2.lt))
      clear c0 c1 c2 c3 c4 hb6
      have c0 := hRR6.cell 0
      clear hRR6
      have HSL := Lib.hid (H6.out.2.alloc (.cells #[.string n] 9))
      go_wp2_with (at_builtin; go_must (refine wpList_append_sl _ rfl (.tmp 44) (.tmp 47) 34 34 rfl 9 j0 (.string ⟨#[]⟩) 1 16 Tryz.underlying34 hj0 hy0 hy1 hy2 rfl (.slice Al k cl) k ((List.replicate k n).map Value.string) rfl HSL.out _ rfl 1 [.string n] (src_new (P := Tryz.prog) Tryz.underlying34 w6 9 (.string n) rfl) (by unfold maxLen; omega) (by omega) ?_); intro v3 w9 hs3 hg3 hv3; obtain ⟨A3, c3, rfl, hc3, hm3⟩ := hs3.shape; have H9 := Lib.hid (And.intro hs3 (And.intro hg3 hv3)); clear hs3 hg3 hv3 hc3 hm3)
      go_roundg (ds.length - (k + 1))
      case measure => have := hg.out; have := HX.out.1; omega
      case rel =>
        obtain ⟨hs3, hg3, hv3⟩ := H9.out
        have hbA : Below w2.heap.size w2 (w6.alloc (.cells #[.string n] 9)) := H6.out.1.alloc H6.out.1.size _
        refine ⟨k + 1, A3, c3, by go_num, rfl, (show ds.length - (k + 1) + (k + 1) = ds.length by have := HX.out.1; omega), hbA.grown hg3 hbA.size (fun g hg => ho.out g hg), ?_, fun g hg => ?_⟩
        · show Sl w9 1 _ _ _
          rw [List.replicate_succ', List.map_append]
          exact hs3
        · rcases hv3 with e | e
          · rw [e] at hg; exact ho.out g hg
          · rw [e] at hg; injection hg with hg; have := hbA.size; omega
    · have hltI : ¬ (k : Int) < (ds.length : Int) := by omega
      have hke : k = ds.length := by have := hg.out; omega
      subst hke
      have hbw : Below w.heap.size w wr := H2.out.1.trans (hb.out.mono H2.out.1.size)
      have hq3 := H2.out.2.2.1.below hb.out H2.out.2.2.1.lt
      have hr3 := H2.out.2.2.2.below hb.out H2.out.2.2.2.lt
      have hm3 := H2.out.2.1.below hb.out H2.out.2.1.lt
      have hT : TTab wr Al ((List.replicate ds.length n).map Value.string) := by
        have h9 := hs.out
        have e : ((List.replicate ds.length n).map Value.string).length = ds.length := by simp
        have h8 := ttab_of_sl (A := Al) (c := cl) (xs := (List.replicate ds.length n).map Value.string) (w := wr) (by rw [e]; exact h9)
        exact h8
      have hde := Deepest_any n (List.replicate ds.length n) Al cl wr hT (by have := HK.out.1.n1; unfold maxLen; omega) (fun x hx => by rw [(List.mem_replicate.1 hx).2]; have := HK.out.1.n1; unfold maxLen; omega) (by rw [List.length_replicate]; omega)
      rw [List.map_replicate, deep_rep HK.out.1.k.name HK.out.1.k.pos, List.length_replicate] at hde
      dsimp only at hde
      rw [show (⟨n.data.toList.toArray⟩ : ByteArray) = n by cases n; simp] at hde
      have HDE := Lib.hid hde
      have H3 := Lib.hid (And.intro hbw (And.intro hr3 hm3))
      have b0 := hq3.cell 0
      clear hde hT hbw hr3 hq3 hm3 hs ho hg a4 hlt
      go_wp2_with (fail)
      with_reducible refine HDE.out.mono ?_
      rintro e w5 ⟨rfl, hb5⟩
      have hm5 := H3.out.2.2.below hb5 H3.out.2.2.lt
      have hbw5 : Below w.heap.size w w5 := H3.out.1.trans (hb5.mono H3.out.1.size)
      have hfa := find_again n 2 l ds (some ⟨bA, oA, none⟩) m.hc w5 HK.out.1.k HK.out.1.n1 HK.out.1.l0 (by have := (HK.out.1.i.below hbw5).th; rw [HK.out.1.h, HK.out.2] at this; exact this)
      have HFA := Lib.hid hfa
      have H5 := Lib.hid (And.intro hbw5 (H3.out.2.1.below hb5 H3.out.2.1.lt))
      clear hfa hbw5 hb5 b0
      have a4 := hm5.cell 4
      clear hm5
      go_wp2_with (fail)
      with_reducible refine HFA.out.mono ?_
      intro e w6 hf
      obtain ⟨Ad, cd, rfl, hr2, hs3, hf3⟩ := got_store hf H5.out.1 (b := w.heap.size + 1 + 1) (by omega) H5.out.2
      have r0 := hr2.cell 0
      have r1 := hr2.cell 1
      have r2 := hr2.cell 2
      have r3 := hr2.cell 3
      have g0 := hr2.frozen 0
      have g1 := hr2.frozen 1
      have g2 := hr2.frozen 2
      have g3 := hr2.frozen 3
      have HF3 := Lib.hid (And.intro hs3 hf3)
      clear hr2 hs3 hf3 hf a4
      go_wp2_with (fail)
      have d0 := HF3.out.1.cell 0
      have d1 := HF3.out.1.cell 1
      have d2 := HF3.out.1.cell 2
      have d3 := HF3.out.1.cell 3
      exact bodyPost_ret (v := .tuple #[.agg #[.string n, .int .u16 2, .int .u32 l, .slice Ad ds.length cd], .int .i64 0]) (by simp [results, Tryz.results22, go_sem, d0, d1, d2, d3]) rfl HF3.out.2
end Go.Proofs.YthnngndnpigjbaaGreat

namespace Go.Proofs.YthnngndnpigjbaaGreat
open Go.RowKit Go.Lib Go.Maps

def ResV (kd : Int) (n : ByteArray) (t l : Int) (Ad : Option Addr) (ds : List ByteArray) (cd : Nat) : Value := .agg #[.int .u8 kd, .slice none 0 0, .string n, .int .u16 t, .int .u32 l, .slice Ad ds.length cd, .string n, .int .u32 0]
def OfP2 (kd : Int) (n : ByteArray) (t l : Int) (ds : List ByteArray) (w : World) (e : Ending) (w' : World) : Prop :=
  ∃ (Ad : Option Addr) (cd : Nat), e = .returned (ResV kd n t l Ad ds cd) ∧ Sl w' 1 (.slice Ad ds.length cd) ds.length (ds.map Value.string) ∧ (∀ h, (Value.slice Ad ds.length cd).ownBlock = some h → w.heap.size ≤ h) ∧ Below w.heap.size w w'
theorem res_store (kd : Int) (n : ByteArray) (t l : Int) {ds : List ByteArray} {Ad : Option Addr} {cd : Nat} {w W : World} {b : Nat} (hr : Blk W b 44 #[.int .u8 0, .slice none 0 0, .string ⟨#[]⟩, .int .u16 0, .int .u32 0, .slice none 0 0, .string ⟨#[]⟩, .int .u32 0]) (hs : Sl W 1 (.slice Ad ds.length cd) ds.length (ds.map Value.string)) (ho : ∀ h, (Value.slice Ad ds.length cd).ownBlock = some h → w.heap.size ≤ h ∧ h ≠ b) (hb : Below w.heap.size w W) (hwb : w.heap.size ≤ b) :
    Blk ((((((((W.setCell ⟨b, 0, none⟩ (.int .u8 kd)).setCell ⟨b, 1, none⟩ (.slice none 0 0)).setCell ⟨b, 2, none⟩ (.string n)).setCell ⟨b, 3, none⟩ (.int .u16 t)).setCell ⟨b, 4, none⟩ (.int .u32 l)).setCell ⟨b, 5, none⟩ (.slice Ad ds.length cd)).setCell ⟨b, 6, none⟩ (.string n)).setCell ⟨b, 7, none⟩ (.int .u32 0)) b 44 #[.int .u8 kd, .slice none 0 0, .string n, .int .u16 t, .int .u32 l, .slice Ad ds.length cd, .string n, .int .u32 0] ∧ OfP2 kd n t l ds w (.returned (ResV kd n t l Ad ds cd)) ((((((((W.setCell ⟨b, 0, none⟩ (.int .u8 kd)).setCell ⟨b, 1, none⟩ (.slice none 0 0)).setCell ⟨b, 2, none⟩ (.string n)).setCell ⟨b, 3, none⟩ (.int .u16 t)).setCell ⟨b, 4, none⟩ (.int .u32 l)).setCell ⟨b, 5, none⟩ (.slice Ad ds.length cd)).setCell ⟨b, 6, none⟩ (.string n)).setCell ⟨b, 7, none⟩ (.int .u32 0)) := by
  refine ⟨?_, Ad, cd, rfl, ((((((((hs.far (p := ⟨b, 0, none⟩) (fun g hg => (ho g hg).2) _).far (p := ⟨b, 1, none⟩) (fun g hg => (ho g hg).2) _).far (p := ⟨b, 2, none⟩) (fun g hg => (ho g hg).2) _).far (p := ⟨b, 3, none⟩) (fun g hg => (ho g hg).2) _).far (p := ⟨b, 4, none⟩) (fun g hg => (ho g hg).2) _).far (p := ⟨b, 5, none⟩) (fun g hg => (ho g hg).2) _).far (p := ⟨b, 6, none⟩) (fun g hg => (ho g hg).2) _).far (p := ⟨b, 7, none⟩) (fun g hg => (ho g hg).2) _), fun h hh => (ho h hh).1, ((((((((hb.setCell (p := ⟨b, 0, none⟩) hwb _).setCell (p := ⟨b, 1, none⟩) hwb _).setCell (p := ⟨b, 2, none⟩) hwb _).setCell (p := ⟨b, 3, none⟩) hwb _).setCell (p := ⟨b, 4, none⟩) hwb _).setCell (p := ⟨b, 5, none⟩) hwb _).setCell (p := ⟨b, 6, none⟩) hwb _).setCell (p := ⟨b, 7, none⟩) hwb _)⟩
  have h9 := ((((((((hr.set_ 0 (.int .u8 kd)).set_ 1 (.slice none 0 0)).set_ 2 (.string n)).set_ 3 (.int .u16 t)).set_ 4 (.int .u32 l)).set_ 5 (.slice Ad ds.length cd)).set_ 6 (.string n)).set_ 7 (.int .u32 0))
  simpa using h9
def msgS (A : Option Addr) (R : List RRec) (c : Nat) : MRec := ⟨0, 0, none, [], 0, A, R, c, none, [], 0, none, [], 0⟩
def msgH (A : Option Addr) (R : List RRec) (c : Nat) : MRec := ⟨0, 0, none, [], 0, none, [], 0, A, R, c, none, [], 0⟩
theorem msgS_in {w : World} {A : Option Addr} {R : List RRec} {c : Nat} (h : RTab w A R) : (msgS A R c).In w := ⟨GTab.nil_, h, RTab.nil_, RTab.nil_⟩
theorem msgH_in {w : World} {A : Option Addr} {R : List RRec} {c : Nat} (h : RTab w A R) : (msgH A R c).In w := ⟨GTab.nil_, RTab.nil_, h, RTab.nil_⟩
theorem msgS_val (A : Option Addr) (n : ByteArray) (t l : Int) (ds : List ByteArray) (c : Nat) : (msgS A (recsR n t l ds) c).val = .agg #[.int .u16 0, .int .u16 0, .slice none 0 0, .slice A ds.length c, .slice none 0 0, .slice none 0 0] := by
  unfold msgS MRec.val
  dsimp only
  rw [recsR_len]
  rfl
theorem msgH_val (A : Option Addr) (n : ByteArray) (t l : Int) (ds : List ByteArray) (c : Nat) : (msgH A (recsR n t l ds) c).val = .agg #[.int .u16 0, .int .u16 0, .slice none 0 0, .slice none 0 0, .slice A ds.length c, .slice none 0 0] := by
  unfold msgH MRec.val
  dsimp only
  rw [recsR_len]
  rfl
set_option maxRecDepth 100000 in
set_option maxHeartbeats 8000000 in
theorem of_hit (A : Option Addr) (c : Nat) (n z : ByteArray) (t l qc : Int) (ds : List ByteArray) (w : World) (hT : RTab w A (recsR n t l ds)) (hK : SetK n t l ds) (hn : n.size ≤ 1000000) (hl : 0 ≤ l) :
    Calls Tryz.prog 8 #[.agg #[.int .u16 0, .int .u16 0, .slice none 0 0, .slice A ds.length c, .slice none 0 0, .slice none 0 0], .agg #[.string n, .int .u16 t, .int .u16 qc], .string z] w (OfP2 1 n t l ds w) := by
  have HC := Lib.hid (fun W => mCode_any (msgS A (recsR n t l ds) c) rfl W)
  rw [msgS_val] at HC
  have HF := Lib.hid (fun W (hW : Below w.heap.size w W) => find_again n t l ds A c W hK hn hl (hT.below hW))
  have HCH := Lib.hid (fun W (hW : Below w.heap.size w W) => chain_hit n t l qc ds A ds.length c W fun X hX => HF.out X (hW.trans (hX.mono hW.size)))
  have hlI : (ds.length : Int) ≤ 64 := by have := hK.len; omega
  clear hT hK hn hl
  obtain ⟨W1, hW1⟩ : ∃ W1, ((w.alloc (.cells #[.int .u16 0, .int .u16 0, .slice none 0 0, .slice A ds.length c, .slice none 0 0, .slice none 0 0] 49)).alloc (.cells #[.string n, .int .u16 t, .int .u16 qc] 40)).alloc (.cells #[.int .u8 0, .slice none 0 0, .string ⟨#[]⟩, .int .u16 0, .int .u32 0, .slice none 0 0, .string ⟨#[]⟩, .int .u32 0] 44) = W1 := ⟨_, rfl⟩
  have hz1 : W1.heap.size = w.heap.size + 3 := by rw [← hW1]; simp
  have hb1 : Below w.heap.size w W1 := by rw [← hW1]; exact (((Below.refl _ _).alloc (Nat.le_refl _) _).alloc (by simp) _).alloc (by simp; omega) _
  have m1 : Blk W1 w.heap.size 49 #[.int .u16 0, .int .u16 0, .slice none 0 0, .slice A ds.length c, .slice none 0 0, .slice none 0 0] := by rw [← hW1]; exact ((Blk.new w _ _).alloc _).alloc _
  have q1 : Blk W1 (w.heap.size + 1) 40 #[.string n, .int .u16 t, .int .u16 qc] := by
    rw [← hW1]
    have := Blk.new (w.alloc (.cells #[.int .u16 0, .int .u16 0, .slice none 0 0, .slice A ds.length c, .slice none 0 0, .slice none 0 0] 49)) 40 #[.string n, .int .u16 t, .int .u16 qc]
    rw [World.size_alloc] at this
    exact this.alloc _
  have r1 : Blk W1 (w.heap.size + 1 + 1) 44 #[.int .u8 0, .slice none 0 0, .string ⟨#[]⟩, .int .u16 0, .int .u32 0, .slice none 0 0, .string ⟨#[]⟩, .int .u32 0] := by
    rw [← hW1]
    have := Blk.new ((w.alloc (.cells #[.int .u16 0, .int .u16 0, .slice none 0 0, .slice A ds.length c, .slice none 0 0, .slice none 0 0] 49)).alloc (.cells #[.string n, .int .u16 t, .int .u16 qc] 40)) 44 #[.int .u8 0, .slice none 0 0, .string ⟨#[]⟩, .int .u16 0, .int .u32 0, .slice none 0 0, .string ⟨#[]⟩, .int .u32 0]
    rw [World.size_alloc, World.size_alloc] at this
    exact this
  go_enter Tryz.func8, Tryz.ntmps8
  go_upto_region 1 with (fail)
  try rw [hW1]
  clear hW1 hz1
  have a0 := m1.cell 0; have a1 := m1.cell 1; have a2 := m1.cell 2; have a3 := m1.cell 3; have a4 := m1.cell 4; have a5 := m1.cell 5
  have H1 := Lib.hid (And.intro hb1 (And.intro m1 (And.intro q1 r1)))
  clear hb1 m1 q1 r1
  go_wp2_with (fail)
  with_reducible refine (HC.out _).mono ?_
  rintro e w2 ⟨rfl, hb⟩
  have m2 := H1.out.2.1.below hb H1.out.2.1.lt
  have q2 := H1.out.2.2.1.below hb H1.out.2.2.1.lt
  have H2 := Lib.hid (And.intro (H1.out.1.trans (hb.mono H1.out.1.size)) (And.intro m2 (And.intro q2 (H1.out.2.2.2.below hb H1.out.2.2.2.lt))))
  clear hb a0 a1 a2 a3 a4 a5
  have a0 := m2.cell 0; have a1 := m2.cell 1; have a2 := m2.cell 2; have a3 := m2.cell 3; have a4 := m2.cell 4; have a5 := m2.cell 5
  have b0 := q2.cell 0; have b1 := q2.cell 1; have b2 := q2.cell 2
  clear m2 q2
  go_wp2_with (fail)
  with_reducible refine (HCH.out _ H2.out.1).mono ?_
  rintro e w3 ⟨rfl, hb⟩
  have m3 := H2.out.2.1.below hb H2.out.2.1.lt
  have q3 := H2.out.2.2.1.below hb H2.out.2.2.1.lt
  have H3 := Lib.hid (And.intro (H2.out.1.trans (hb.mono H2.out.1.size)) (And.intro m3 (And.intro q3 (H2.out.2.2.2.below hb H2.out.2.2.2.lt))))
  clear hb a0 a1 a2 a3 a4 a5 b0 b1 b2
  have a0 := m3.cell 0; have a1 := m3.cell 1; have a2 := m3.cell 2; have a3 := m3.cell 3; have a4 := m3.cell 4; have a5 := m3.cell 5
  have b0 := q3.cell 0; have b1 := q3.cell 1; have b2 := q3.cell 2
  clear m3 q3
  go_wp2_with (fail)
  with_reducible refine (HF.out _ H3.out.1).mono ?_
  intro e w9 hf
  obtain ⟨Ad, cd, rfl, hs9, ho9, hb⟩ := hf
  have hr9 := H3.out.2.2.2.below hb H3.out.2.2.2.lt
  have hrl := H3.out.2.2.2.lt
  have H9 := Lib.hid (And.intro (H3.out.1.trans (hb.mono H3.out.1.size)) (And.intro hr9 (And.intro hs9 (show ∀ h, (Value.slice Ad ds.length cd).ownBlock = some h → w.heap.size ≤ h ∧ h ≠ w.heap.size + 1 + 1 from fun h hh => by have := ho9 h hh; have := H3.out.1.size; omega))))
  have hr9l := hr9.lt
  clear hb hr9 hs9 ho9 a0 a1 a2 a3 a4 a5 b0 b1 b2 hrl
  dsimp only [setV]
  go_upto_region 5 with (fail)
  obtain ⟨W5, hW5⟩ : ∃ W5, w9.alloc (.cells #[.string n, .int .u16 t, .int .u32 l, .slice Ad ds.length cd] 36) = W5 := ⟨_, rfl⟩
  have hb5 : Below w9.heap.size w9 W5 := by rw [← hW5]; exact (Below.refl _ _).alloc (Nat.le_refl _) _
  have k5 : Blk W5 w9.heap.size 36 #[.string n, .int .u16 t, .int .u32 l, .slice Ad ds.length cd] := by rw [← hW5]; exact Blk.new _ _ _
  rw [hW5]
  clear hW5
  have hr5 := H9.out.2.1.below hb5 H9.out.2.1.lt
  have hst := res_store 1 n t l hr5 (H9.out.2.2.1.below hb5 H9.out.2.2.1.lt) H9.out.2.2.2 (H9.out.1.trans (hb5.mono H9.out.1.size)) (by omega)
  have HST := Lib.hid hst
  have s0 := k5.cell 0; have s1 := k5.cell 1; have s2 := k5.cell 2; have s3 := k5.cell 3
  have r0 := hr5.cell 0
  have g0 := hr5.frozen 0
  have r1 := hr5.cell 1
  have g1 := hr5.frozen 1
  have r2 := hr5.cell 2
  have g2 := hr5.frozen 2
  have r3 := hr5.cell 3
  have g3 := hr5.frozen 3
  have r4 := hr5.cell 4
  have g4 := hr5.frozen 4
  have r5 := hr5.cell 5
  have g5 := hr5.frozen 5
  have r6 := hr5.cell 6
  have g6 := hr5.frozen 6
  have r7 := hr5.cell 7
  have g7 := hr5.frozen 7
  clear hst hr5 k5 hb5
  go_wp2_with (fail)
  have d0 := HST.out.1.cell 0
  have d1 := HST.out.1.cell 1
  have d2 := HST.out.1.cell 2
  have d3 := HST.out.1.cell 3
  have d4 := HST.out.1.cell 4
  have d5 := HST.out.1.cell 5
  have d6 := HST.out.1.cell 6
  have d7 := HST.out.1.cell 7
  exact bodyPost_ret (v := ResV 1 n t l Ad ds cd) (by simp [results, Tryz.results8, go_sem, d0, d1, d2, d3, d4, d5, d6, d7, ResV]) rfl HST.out.2
theorem soa_none {A : Option Addr} {n z : ByteArray} {l : Int} {ds : List ByteArray} {c : Nat} (h : SetK n 2 l ds) : soaOf (msgH A (recsR n 2 l ds) c) n z = none := by
  unfold soaOf
  rw [List.find?_eq_none]
  intro r hr
  have h2 := (recs_right h (show r ∈ recsR n 2 l ds from hr)).2.2.1
  unfold headB
  rw [h2]
  simp
theorem askOk_of {A : Option Addr} {n z : ByteArray} {l : Int} {ds : List ByteArray} {c : Nat} {w : World} (hT : RTab w A (recsR n 2 l ds)) (h : SetK n 2 l ds) (hn : n.size ≤ 1000000) (hz : z.size ≤ 1000000) (hl : 0 ≤ l) : AskOk (msgH A (recsR n 2 l ds) c) n z w :=
  ⟨msgH_in hT, fun r hr => by have h1 := recs_sizes h hn hl r hr; exact ⟨by unfold maxLen; omega, by omega⟩, by show (recsR n 2 l ds).length ≤ 64; rw [recsR_len]; exact h.len, by unfold maxLen; omega, by unfold maxLen; omega⟩
set_option maxRecDepth 100000 in
set_option maxHeartbeats 8000000 in
theorem of_refer (A : Option Addr) (c : Nat) (n z : ByteArray) (l qc : Int) (ds : List ByteArray) (w : World) (hT : RTab w A (recsR n 2 l ds)) (hK : SetK n 2 l ds) (hn : n.size ≤ 1000000) (hz : z.size ≤ 1000000) (hl : 0 ≤ l) (hd : 0 < depthN n.data.toList z.data.toList) :
    Calls Tryz.prog 8 #[.agg #[.int .u16 0, .int .u16 0, .slice none 0 0, .slice none 0 0, .slice A ds.length c, .slice none 0 0], .agg #[.string n, .int .u16 1, .int .u16 qc], .string z] w (OfP2 5 n 2 l ds w) := by
  have HC := Lib.hid (fun W => mCode_any (msgH A (recsR n 2 l ds) c) rfl W)
  have HN := Lib.hid (fun W (hW : Below w.heap.size w W) => absName_any (msgH A (recsR n 2 l ds) c) n z 1 qc W (askOk_of (hT.below hW) hK hn hz hl))
  have HTY := Lib.hid (fun W (hW : Below w.heap.size w W) => absType_any (msgH A (recsR n 2 l ds) c) n z 1 qc W (askOk_of (hT.below hW) hK hn hz hl) (fun r hr => by cases hr) (by show 0 ≤ 64; omega))
  have HRF := Lib.hid (fun W (hW : Below w.heap.size w W) => refers_any (msgH A (recsR n 2 l ds) c) n z 1 qc l ds W ⟨msgH_in (hT.below hW), rfl, rfl, hn, hz, hK, hl, hd⟩)
  rw [soa_none hK] at HN HTY
  rw [msgH_val] at HC HN HTY HRF
  simp only [Option.isSome_none, Bool.and_false, Bool.false_and] at HN HTY
  have HF := Lib.hid (fun W => find_none n hn 1 W)
  have HCH := Lib.hid (fun W => chain_none n 1 qc (by decide) none 0 0 W fun ty X _ => find_none n hn ty X)
  have hlI : (ds.length : Int) ≤ 64 := by have := hK.len; omega
  clear hT hK hn hl hz hd
  obtain ⟨W1, hW1⟩ : ∃ W1, ((w.alloc (.cells #[.int .u16 0, .int .u16 0, .slice none 0 0, .slice none 0 0, .slice A ds.length c, .slice none 0 0] 49)).alloc (.cells #[.string n, .int .u16 1, .int .u16 qc] 40)).alloc (.cells #[.int .u8 0, .slice none 0 0, .string ⟨#[]⟩, .int .u16 0, .int .u32 0, .slice none 0 0, .string ⟨#[]⟩, .int .u32 0] 44) = W1 := ⟨_, rfl⟩
  have hz1 : W1.heap.size = w.heap.size + 3 := by rw [← hW1]; simp
  have hb1 : Below w.heap.size w W1 := by rw [← hW1]; exact (((Below.refl _ _).alloc (Nat.le_refl _) _).alloc (by simp) _).alloc (by simp; omega) _
  have m1 : Blk W1 w.heap.size 49 #[.int .u16 0, .int .u16 0, .slice none 0 0, .slice none 0 0, .slice A ds.length c, .slice none 0 0] := by rw [← hW1]; exact ((Blk.new w _ _).alloc _).alloc _
  have q1 : Blk W1 (w.heap.size + 1) 40 #[.string n, .int .u16 1, .int .u16 qc] := by
    rw [← hW1]
    have := Blk.new (w.alloc (.cells #[.int .u16 0, .int .u16 0, .slice none 0 0, .slice none 0 0, .slice A ds.length c, .slice none 0 0] 49)) 40 #[.string n, .int .u16 1, .int .u16 qc]
    rw [World.size_alloc] at this
    exact this.alloc _
  have r1 : Blk W1 (w.heap.size + 1 + 1) 44 #[.int .u8 0, .slice none 0 0, .string ⟨#[]⟩, .int .u16 0, .int .u32 0, .slice none 0 0, .string ⟨#[]⟩, .int .u32 0] := by
    rw [← hW1]
    have := Blk.new ((w.alloc (.cells #[.int .u16 0, .int .u16 0, .slice none 0 0, .slice none 0 0, .slice A ds.length c, .slice none 0 0] 49)).alloc (.cells #[.string n, .int .u16 1, .int .u16 qc] 40)) 44 #[.int .u8 0, .slice none 0 0, .string ⟨#[]⟩, .int .u16 0, .int .u32 0, .slice none 0 0, .string ⟨#[]⟩, .int .u32 0]
    rw [World.size_alloc, World.size_alloc] at this
    exact this
  go_enter Tryz.func8, Tryz.ntmps8
  go_upto_region 1 with (fail)
  try rw [hW1]
  clear hW1 hz1
  have a0 := m1.cell 0; have a1 := m1.cell 1; have a2 := m1.cell 2; have a3 := m1.cell 3; have a4 := m1.cell 4; have a5 := m1.cell 5
  have H1 := Lib.hid (And.intro hb1 (And.intro m1 (And.intro q1 r1)))
  clear hb1 m1 q1 r1
  go_wp2_with (fail)
  with_reducible refine (HC.out _).mono ?_
  rintro e w2 ⟨rfl, hb⟩
  have m2 := H1.out.2.1.below hb H1.out.2.1.lt
  have q2 := H1.out.2.2.1.below hb H1.out.2.2.1.lt
  have H2 := Lib.hid (And.intro (H1.out.1.trans (hb.mono H1.out.1.size)) (And.intro m2 (And.intro q2 (H1.out.2.2.2.below hb H1.out.2.2.2.lt))))
  clear hb a0 a1 a2 a3 a4 a5
  have a0 := m2.cell 0; have a1 := m2.cell 1; have a2 := m2.cell 2; have a3 := m2.cell 3; have a4 := m2.cell 4; have a5 := m2.cell 5
  have b0 := q2.cell 0; have b1 := q2.cell 1; have b2 := q2.cell 2
  clear m2 q2
  go_wp2_with (fail)
  with_reducible refine (HCH.out _).mono ?_
  rintro e w3 ⟨rfl, hb⟩
  have m3 := H2.out.2.1.below hb H2.out.2.1.lt
  have q3 := H2.out.2.2.1.below hb H2.out.2.2.1.lt
  have H3 := Lib.hid (And.intro (H2.out.1.trans (hb.mono H2.out.1.size)) (And.intro m3 (And.intro q3 (H2.out.2.2.2.below hb H2.out.2.2.2.lt))))
  clear hb a0 a1 a2 a3 a4 a5 b0 b1 b2
  have a0 := m3.cell 0; have a1 := m3.cell 1; have a2 := m3.cell 2; have a3 := m3.cell 3; have a4 := m3.cell 4; have a5 := m3.cell 5
  have b0 := q3.cell 0; have b1 := q3.cell 1; have b2 := q3.cell 2
  clear m3 q3
  go_wp2_with (fail)
  with_reducible refine (HF.out _).mono ?_
  rintro e w4 ⟨rfl, hb⟩
  have m4 := H3.out.2.1.below hb H3.out.2.1.lt
  have q4 := H3.out.2.2.1.below hb H3.out.2.2.1.lt
  have H4 := Lib.hid (And.intro (H3.out.1.trans (hb.mono H3.out.1.size)) (And.intro m4 (And.intro q4 (H3.out.2.2.2.below hb H3.out.2.2.2.lt))))
  clear hb a0 a1 a2 a3 a4 a5 b0 b1 b2 m4 q4
  go_upto_region 5 with (fail)
  obtain ⟨W5, hW5⟩ : ∃ W5, w4.alloc (.cells #[.string ⟨#[]⟩, .int .u16 0, .int .u32 0, .slice none 0 0] 36) = W5 := ⟨_, rfl⟩
  have hb : Below w4.heap.size w4 W5 := by rw [← hW5]; exact (Below.refl _ _).alloc (Nat.le_refl _) _
  rw [hW5]
  clear hW5
  have m5 := H4.out.2.1.below hb H4.out.2.1.lt
  have q5 := H4.out.2.2.1.below hb H4.out.2.2.1.lt
  have H5 := Lib.hid (And.intro (H4.out.1.trans (hb.mono H4.out.1.size)) (And.intro m5 (And.intro q5 (H4.out.2.2.2.below hb H4.out.2.2.2.lt))))
  clear hb
  have a0 := m5.cell 0; have a1 := m5.cell 1; have a2 := m5.cell 2; have a3 := m5.cell 3; have a4 := m5.cell 4; have a5 := m5.cell 5
  have b0 := q5.cell 0; have b1 := q5.cell 1; have b2 := q5.cell 2
  clear m5 q5
  go_wp2_with (fail)
  with_reducible refine (HN.out _ H5.out.1).mono ?_
  rintro e w6 ⟨rfl, hb⟩
  have m6 := H5.out.2.1.below hb H5.out.2.1.lt
  have q6 := H5.out.2.2.1.below hb H5.out.2.2.1.lt
  have H6 := Lib.hid (And.intro (H5.out.1.trans (hb.mono H5.out.1.size)) (And.intro m6 (And.intro q6 (H5.out.2.2.2.below hb H5.out.2.2.2.lt))))
  clear hb a0 a1 a2 a3 a4 a5 b0 b1 b2
  have a0 := m6.cell 0; have a1 := m6.cell 1; have a2 := m6.cell 2; have a3 := m6.cell 3; have a4 := m6.cell 4; have a5 := m6.cell 5
  have b0 := q6.cell 0; have b1 := q6.cell 1; have b2 := q6.cell 2
  clear m6 q6
  go_wp2_with (fail)
  with_reducible refine (HTY.out _ H6.out.1).mono ?_
  rintro e w7 ⟨rfl, hb⟩
  have m7 := H6.out.2.1.below hb H6.out.2.1.lt
  have q7 := H6.out.2.2.1.below hb H6.out.2.2.1.lt
  have H7 := Lib.hid (And.intro (H6.out.1.trans (hb.mono H6.out.1.size)) (And.intro m7 (And.intro q7 (H6.out.2.2.2.below hb H6.out.2.2.2.lt))))
  clear hb a0 a1 a2 a3 a4 a5 b0 b1 b2
  have a0 := m7.cell 0; have a1 := m7.cell 1; have a2 := m7.cell 2; have a3 := m7.cell 3; have a4 := m7.cell 4; have a5 := m7.cell 5
  have b0 := q7.cell 0; have b1 := q7.cell 1; have b2 := q7.cell 2
  clear m7 q7
  go_wp2_with (fail)
  with_reducible refine (HRF.out _ H7.out.1).mono ?_
  intro e w9 hf
  obtain ⟨Ad, cd, rfl, hs9, ho9, hb⟩ := hf
  have hr9 := H7.out.2.2.2.below hb H7.out.2.2.2.lt
  have hrl := H7.out.2.2.2.lt
  have H9 := Lib.hid (And.intro (H7.out.1.trans (hb.mono H7.out.1.size)) (And.intro hr9 (And.intro hs9 (show ∀ h, (Value.slice Ad ds.length cd).ownBlock = some h → w.heap.size ≤ h ∧ h ≠ w.heap.size + 1 + 1 from fun h hh => by have := ho9 h hh; have := H7.out.1.size; omega))))
  have hr9l := hr9.lt
  clear hb hr9 hs9 ho9 a0 a1 a2 a3 a4 a5 b0 b1 b2 hrl
  dsimp only [setV]
  go_upto_region 14 with (fail)
  obtain ⟨W5, hW5⟩ : ∃ W5, w9.alloc (.cells #[.string n, .int .u16 2, .int .u32 l, .slice Ad ds.length cd] 36) = W5 := ⟨_, rfl⟩
  have hb5 : Below w9.heap.size w9 W5 := by rw [← hW5]; exact (Below.refl _ _).alloc (Nat.le_refl _) _
  have k5 : Blk W5 w9.heap.size 36 #[.string n, .int .u16 2, .int .u32 l, .slice Ad ds.length cd] := by rw [← hW5]; exact Blk.new _ _ _
  rw [hW5]
  clear hW5
  have hr5 := H9.out.2.1.below hb5 H9.out.2.1.lt
  have hst := res_store 5 n 2 l hr5 (H9.out.2.2.1.below hb5 H9.out.2.2.1.lt) H9.out.2.2.2 (H9.out.1.trans (hb5.mono H9.out.1.size)) (by omega)
  have HST := Lib.hid hst
  have s0 := k5.cell 0; have s1 := k5.cell 1; have s2 := k5.cell 2; have s3 := k5.cell 3
  have r0 := hr5.cell 0
  have g0 := hr5.frozen 0
  have r1 := hr5.cell 1
  have g1 := hr5.frozen 1
  have r2 := hr5.cell 2
  have g2 := hr5.frozen 2
  have r3 := hr5.cell 3
  have g3 := hr5.frozen 3
  have r4 := hr5.cell 4
  have g4 := hr5.frozen 4
  have r5 := hr5.cell 5
  have g5 := hr5.frozen 5
  have r6 := hr5.cell 6
  have g6 := hr5.frozen 6
  have r7 := hr5.cell 7
  have g7 := hr5.frozen 7
  clear hst hr5 k5 hb5
  go_wp2_with (fail)
  have d0 := HST.out.1.cell 0
  have d1 := HST.out.1.cell 1
  have d2 := HST.out.1.cell 2
  have d3 := HST.out.1.cell 3
  have d4 := HST.out.1.cell 4
  have d5 := HST.out.1.cell 5
  have d6 := HST.out.1.cell 6
  have d7 := HST.out.1.cell 7
  exact bodyPost_ret (v := ResV 5 n 2 l Ad ds cd) (by simp [results, Tryz.results8, go_sem, d0, d1, d2, d3, d4, d5, d6, d7, ResV]) rfl HST.out.2
end Go.Proofs.YthnngndnpigjbaaGreat
