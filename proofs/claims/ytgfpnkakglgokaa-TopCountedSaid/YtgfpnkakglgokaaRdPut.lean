/- The walk of package rdata's Write; a Writer's name that is none. Conditions: none. -/
import Derived.Test.YtgfpnkakglgokaaRdWrite
namespace Go.Proofs.Ytgfpnkakglgokaa
open Go.RowKit Go.Lib

theorem name_no (pt : Bool) {K : Nat → Prop} {w : World} {b : Nat} {lim : Int} {m : Value} {l : Bs} (n : ByteArray) (hs : n.size ≤ maxLen) (hn : isName n.data.toList = false) (h : Wr K w b lim false m l) :
    Calls Try.prog 50 #[.pointer (some ⟨b, 0, none⟩), .string n, .bool pt] w fun e w' => e = .returned (.tuple #[]) ∧ Below w.heap.size w w' := by
  obtain ⟨h1, v, h2, h3, h4⟩ := h
  have c2 : w.cell? ⟨b, 2, none⟩ = some (.bool false) := h2.cell 2
  have hck : chkN n.data.toList = 2 := by unfold chkN; rw [if_neg (by rw [hn]; decide)]
  have HCK := Lib.hid (fun W => Check_any n hs W)
  rw [hck] at HCK
  clear h1 h2 h3 h4 hn hs hck
  go_enter Try.func50, Try.ntmps50
  go_wp2_with (fail)
  with_reducible refine (HCK.out _).mono ?_
  rintro e w1 ⟨rfl, hb1⟩
  have HB := Lib.hid hb1
  clear hb1
  go_wp2_with (fail)
  refine bodyPost_ret (results_none rfl _ _ _) rfl ?_
  exact ⟨rfl, HB.out⟩
theorem wName_no {K : Nat → Prop} {w : World} {b : Nat} {lim : Int} {m : Value} {l : Bs} (n : ByteArray) (hs : n.size ≤ maxLen) (hn : isName n.data.toList = false) (h : Wr K w b lim false m l) :
    Calls Try.prog 24 #[.pointer (some ⟨b, 0, none⟩), .string n] w fun e w' => e = .returned (.tuple #[]) ∧ Below w.heap.size w w' := by
  have H := Lib.hid (name_no true n hs hn h)
  clear h hs hn
  go_enter Try.func24, Try.ntmps24
  go_wp2_with (fail)
  with_reducible refine H.out.mono ?_
  rintro e w1 ⟨rfl, h1⟩
  have H1 := Lib.hid h1
  clear h1
  go_wp2_with (fail)
  refine bodyPost_end (results_none rfl _ _ _) rfl ?_
  exact ⟨rfl, H1.out⟩

/-- What data are, written behind l. -/
def Written (t : Int) (d l l' : Bs) : Prop := match lookN t d with
  | none => l' = l ++ d
  | some (a, ns, b) => ∃ E, l' = l ++ (a ++ (E ++ b)) ∧ Chain (l ++ (a ++ E)) (l.length + a.length) (ns.map fun n => (labs n).1) (l.length + a.length + E.length) ∧ E.length ≤ ns.flatten.length
/-- Names, written one behind the other. -/
def putN (pt : Bool) (ns : List Bs) (x : Bs × Rests) : Bs × Rests := ns.foldl (fun x n => wname pt (labs n).1 x.1 x.2) x
def writeM (t : Int) (d l : Bs) (R : Rests) : Bs × Rests := match lookN t d with
  | none => (l ++ d, R)
  | some (a, ns, b) => ((putN (decide (t ≠ 33)) ns (l ++ a, R)).1 ++ b, (putN (decide (t ≠ 33)) ns (l ++ a, R)).2)
def WritePost (K : Nat → Prop) (b mb cnt : Nat) (lim : Int) (t : Int) (d l : Bs) (R : Rests) (w : World) (e : Ending) (w' : World) : Prop :=
  e = .returned (.int .i64 0) ∧ ∃ l' R' c', (l', R') = writeM t d l R ∧ Wn K w' b mb c' lim l' R' ∧ KeepK K w w' ∧ OkR l' R' ∧ Written t d l l' ∧ c' ≤ cnt + 510
/-- What is known while the names are written. -/
def PutR (pt : Bool) (R0 : Rests) (l a : Bs) (ns : List Bs) (lk : Bs) (R : Rests) : Prop :=
  ((lk, R) = putN pt ns (l ++ a, R0) ∧ OkR lk R) ∧ ∃ E, lk = l ++ (a ++ E) ∧ Chain lk (l.length + a.length) (ns.map fun n => (labs n).1) lk.length ∧ E.length ≤ ns.flatten.length
theorem put_start (pt : Bool) {l a : Bs} {R : Rests} (h : OkR (l ++ a) R) : PutR pt R l a [] (l ++ a) R := ⟨⟨rfl, h⟩, [], by simp, by show l.length + a.length = _; simp, by simp⟩
theorem put_more (pt : Bool) {R0 : Rests} {l a : Bs} {ns : List Bs} {lk : Bs} {R : Rests} {n : Bs} (h : PutR pt R0 l a ns lk R) (hn : isName n = true) : PutR pt R0 l a (ns ++ [n]) (wname pt (labs n).1 lk R).1 (wname pt (labs n).1 lk R).2 := by
  obtain ⟨⟨h0, h1⟩, E, h2, h3, h4⟩ := h
  obtain ⟨t, e, t1, t2, hE, hO⟩ := wname_more (pt := pt) (ls := (labs n).1) (labs_ok _) h1
  have h0' : ((wname pt (labs n).1 lk R).1, (wname pt (labs n).1 lk R).2) = putN pt (ns ++ [n]) (l ++ a, R0) := by
    unfold putN at h0 ⊢
    rw [List.foldl_append, ← h0]
    rfl
  rw [e] at h0' ⊢
  refine ⟨⟨h0', hO⟩, E ++ t, by rw [h2]; simp, ?_, ?_⟩
  · rw [List.map_append]
    exact (h3.more t).snoc hE
  · rw [mk_labs hn] at t2
    simp at *; omega
theorem put_end {t : Int} {R0 : Rests} {d l a b : Bs} {ns : List Bs} {lk : Bs} {R : Rests} (h : PutR (decide (t ≠ 33)) R0 l a ns lk R) (hq : lookN t d = some (a, ns, b)) : OkR (lk ++ b) R ∧ Written t d l (lk ++ b) ∧ (lk ++ b, R) = writeM t d l R0 := by
  obtain ⟨⟨h0, h1⟩, E, h2, h3, h4⟩ := h
  refine ⟨h1.more b, ?_, by unfold writeM; rw [hq]; dsimp only; rw [← h0]⟩
  unfold Written
  rw [hq]
  refine ⟨E, by rw [h2]; simp, ?_, h4⟩
  have : lk.length = l.length + a.length + E.length := by rw [h2]; simp; omega
  rw [← h2, ← this]
  exact h3
theorem put_len {pt : Bool} {R0 : Rests} {l a : Bs} {ns : List Bs} {lk : Bs} {R : Rests} (h : PutR pt R0 l a ns lk R) : lk.length ≤ l.length + a.length + ns.flatten.length := by
  obtain ⟨_, E, h2, _, h4⟩ := h
  rw [h2]; simp only [List.length_append]; omega
theorem flatten_take {ns : List Bs} {k : Nat} {n : Bs} (h : ns[k]? = some n) : (ns.take k).flatten.length + n.length ≤ ns.flatten.length := by
  obtain ⟨hk, rfl⟩ := List.getElem?_eq_some_iff.1 h
  have e : ns = ns.take k ++ (ns[k] :: ns.drop (k + 1)) := by rw [← List.drop_eq_getElem_cons hk, List.take_append_drop]
  conv => rhs; rw [e]
  simp only [List.flatten_append, List.length_append, List.flatten_cons]
  omega

theorem look_cut {t : Int} {l : Bs} {f : Nat × Nat × Nat} {p : Bs × List Bs × Bs} (hf : formN t = some f) (h : lookN t l = some p) : cutN f l = some p := by
  unfold lookN at h
  rw [hf] at h
  dsimp only at h
  split at h
  · exact h
  · cases h
theorem strs_at {ns : List Bs} {k : Nat} {n : Bs} (h : ns[k]? = some n) : (strs ns)[k]? = some (.string ⟨n.toArray⟩) := by unfold strs; rw [List.getElem?_map, h]; rfl

set_option maxRecDepth 100000 in
set_option maxHeartbeats 16000000 in
theorem rdWrite_any {K : Nat → Prop} {w : World} {b mb cnt : Nat} {lim : Int} {l : Bs} {R : Rests} (t : Int) (s : ByteArray) (hs : s.size ≤ 140737488355328) (hok : okD t s.data.toList = true) (h : Wn K w b mb cnt lim l R) (hO : OkR l R)
    (hfit : (l.length + s.size : Int) ≤ lim) (hlim : lim ≤ 140737488355000) (hcnt : cnt ≤ 900000) :
    Calls Try.prog 53 #[.pointer (some ⟨b, 0, none⟩), .int .u16 t, .string s] w (WritePost K b mb cnt lim t s.data.toList l R w) := by
  obtain ⟨d, hd⟩ : ∃ d, s.data.toList = d := ⟨_, rfl⟩
  have HCK := Lib.hid (rdCheck_any t s hs w)
  have HLK := Lib.hid (fun W => look_any t s hs W)
  have hck : chkD t d = 0 := by rw [← hd]; unfold chkD; rw [if_pos hok]
  rw [hd] at HCK HLK ⊢
  rw [hck] at HCK
  have hds : d.length = s.size := by rw [← hd]; simp
  have HH := Lib.hid (And.intro h (And.intro hO (And.intro hfit (And.intro hlim (And.intro hcnt (And.intro hd (And.intro hds hs)))))))
  clear h hO hfit hlim hcnt hd hs hok hck hds
  go_enter Try.func53, Try.ntmps53
  go_wp2_with (fail)
  with_reducible refine HCK.out.mono ?_
  rintro e w1 ⟨rfl, hb1⟩
  have HB1 := Lib.hid hb1
  clear hb1 HCK
  go_wp2_with (fail)
  with_reducible refine (HLK.out _).mono ?_
  rintro e w2 hpost
  clear HLK
  rcases hpost with ⟨hq, f, rfl, hb⟩ | ⟨f, p, A, c, hf, hq, rfl, hS, hO, hb⟩
  · have hb2 := HB1.out.trans (hb.mono HB1.out.size)
    have hbV := (hb2.alloc hb2.size (.cells #[.int .i64 (f.1 : Int), .int .i64 (f.2.1 : Int), .int .i64 (f.2.2 : Int)] 141)).alloc (by have := hb2.size; simp; omega) (.cells #[.string ⟨#[]⟩, .slice none 0 0, .string ⟨#[]⟩] 143)
    have HBV := Lib.hid (And.intro hbV hq)
    clear hb hb2 hbV hq
    unfold formV noParts
    go_wp2_with (fail)
    have hwn := HH.out.1.below (HBV.out.1.mono (Nat.le_refl _))
    have HRW := Lib.hid (raw_fits s hwn.1 HH.out.2.2.1 (by have := HH.out.2.2.2.1; omega))
    have HWN := Lib.hid hwn
    clear hwn
    with_reducible refine HRW.out.mono ?_
    rintro e w3 ⟨rfl, h3, hk3⟩
    have H3 := Lib.hid (And.intro (HWN.out.turn h3 hk3) hk3)
    clear h3 hk3
    go_wp2_with (fail)
    go_ret
    refine ⟨rfl, _, R, cnt, (by unfold writeM; rw [HBV.out.2, HH.out.2.2.2.2.2.1]), H3.out.1, (KeepK.of_below HBV.out.1 fun i hi => (HH.out.1.1.1 i (.inl hi)).1).trans (H3.out.2.mono fun i hi => .inl hi), HH.out.2.1.more _, ?_, by omega⟩
    unfold Written
    rw [HBV.out.2, HH.out.2.2.2.2.2.1]
  · obtain ⟨pa, ns, pb⟩ := p
    have hcl := cutN_len (look_cut hf hq)
    have hfl := formN_le hf
    dsimp only at hS hO hcl
    obtain ⟨PA, hPA⟩ : ∃ PA : ByteArray, (⟨pa.toArray⟩ : ByteArray) = PA := ⟨_, rfl⟩
    obtain ⟨PB, hPB⟩ : ∃ PB : ByteArray, (⟨pb.toArray⟩ : ByteArray) = PB := ⟨_, rfl⟩
    have hPAd : PA.data.toList = pa := by subst hPA; rfl
    have hPBd : PB.data.toList = pb := by subst hPB; rfl
    have hPAs : PA.size = pa.length := by rw [← hPAd]; simp
    have hPBs : PB.size = pb.length := by rw [← hPBd]; simp
    have hdl : s.size = pa.length + (ns.flatten.length + pb.length) := by
      rw [← HH.out.2.2.2.2.2.2.1, hcl.1]; simp only [List.length_append]
    unfold formV partsV bsV
    dsimp only
    rw [hPA, hPB]
    obtain ⟨V, hV⟩ : ∃ V, (w2.alloc (.cells #[.int .i64 (f.1 : Int), .int .i64 (f.2.1 : Int), .int .i64 (f.2.2 : Int)] 141)).alloc (.cells #[.string PA, .slice A ns.length c, .string PB] 143) = V := ⟨_, rfl⟩
    have hb2 := HB1.out.trans (hb.mono HB1.out.size)
    have hbV : Below w.heap.size w V := by rw [← hV]; exact (hb2.alloc hb2.size _).alloc (by have := hb2.size; simp; omega) _
    have gF : Blk V w2.heap.size 141 #[.int .i64 (f.1 : Int), .int .i64 (f.2.1 : Int), .int .i64 (f.2.2 : Int)] := by rw [← hV]; exact (Blk.new w2 _ _).alloc _
    have gP : Blk V (w2.heap.size + 1) 143 #[.string PA, .slice A ns.length c, .string PB] := by rw [← hV]; exact heap_alloc2_new w2 _ _
    have hSV : Sl V 1 (.slice A ns.length c) ns.length (strs ns) := by rw [← hV]; exact (hS.alloc _).alloc _
    have hWV := HH.out.1.fresh (KeepK.of_below hbV fun i (hi : i < w.heap.size ∧ ¬ K i) => hi.1)
    have hK' : ∀ i, w2.heap.size ≤ i → i < V.heap.size → (K i ∨ (w.heap.size ≤ i ∧ i < V.heap.size)) := fun i h1 h2 => .inr ⟨by have := hb2.size; omega, h2⟩
    have hOK : ∀ i, (Value.slice A ns.length c).ownBlock = some i → (K i ∨ (w.heap.size ≤ i ∧ i < V.heap.size)) := fun i hi => .inr ⟨by have := hO i hi; have := HB1.out.size; omega, hSV.lt i hi⟩
    have hKK : KeepK K w V := KeepK.of_below hbV fun i hi => (HH.out.1.1.1 i (.inl hi)).1
    have hltF := gF.lt
    have hltP := gP.lt
    have q0 : V.cell? ⟨w2.heap.size, 0, none⟩ = some (.int .i64 (f.1 : Int)) := gF.cell 0
    have q1 : V.cell? ⟨w2.heap.size + 1, 0, none⟩ = some (.string PA) := gP.cell 0
    have HCP := Lib.hid (copies_any 2 f.1 (.inl rfl) (by omega) PA (by rw [hPAs]; exact hcl.2.1) hWV.1 (by have := HH.out.2.2.1; omega) HH.out.2.2.2.1)
    rw [hPAd] at HCP
    have HV := Lib.hid (And.intro hWV (And.intro gF (And.intro gP (And.intro hSV (And.intro hK' (And.intro hOK (And.intro hKK hV)))))))
    have HE := Lib.hid (And.intro hcl (And.intro hfl (And.intro hdl (And.intro hPAs (And.intro hPBs (And.intro hPBd (And.intro HH.out.2.2.1 (show ns.length ≤ 2 by omega))))))))
    have HQ := Lib.hid hq
    have hf0 : (f.1 : Int) ≤ 3 := by omega
    have hf2 : (f.2.2 : Int) ≤ 5 := by omega
    have hnI : (ns.length : Int) ≤ 2 := by omega
    clear hb hf hq hS hO hcl hfl hPA hPB hPAd hPBd hPAs hPBs hdl hb2 hbV gF gP hSV hWV hK' hOK hKK hV
    go_upto_region 7 with (fail)
    rw [HV.out.2.2.2.2.2.2.2]
    go_wp2_with (fail)
    refine HCP.out.mono ?_
    rintro e w4 ⟨rfl, hw4, hk4⟩
    have hWn4 := HV.out.1.turn hw4 hk4
    have gF4 := HV.out.2.1.keepK hk4 (.inl (HV.out.2.2.2.2.1 _ (Nat.le_refl _) hltF))
    have gP4 := HV.out.2.2.1.keepK hk4 (.inl (HV.out.2.2.2.2.1 _ (Nat.le_succ _) hltP))
    have r1 : w4.cell? ⟨w2.heap.size + 1, 1, none⟩ = some (.slice A ns.length c) := gP4.cell 1
    have H4 := Lib.hid (And.intro hWn4 (hk4.mono fun i hi => .inl hi))
    clear hw4 hk4 hWn4 gF4 gP4 q0 q1 HCP
    go_wp2_with (fail)
    go_loopg [37] ns.length (fun gg v37 wr => ∃ (k : Nat) (lk : Bs) (Rk : Rests) (ck : Nat), v37 = .int .i64 (k : Int) ∧ Aside (gg + k = ns.length) ∧ Aside (Wn (fun i => K i ∨ (w.heap.size ≤ i ∧ i < V.heap.size)) wr b mb ck lim lk Rk ∧ KeepK (fun i => K i ∨ (w.heap.size ≤ i ∧ i < V.heap.size)) V wr ∧ PutR (decide (t ≠ 33)) R l pa (ns.take k) lk Rk ∧ ck ≤ cnt + 255 * k))
    case atStart => exact ⟨0, _, _, cnt, rfl, rfl, H4.out.1, H4.out.2, put_start _ (HH.out.2.1.more _), Nat.le_refl _⟩
    case round =>
      obtain ⟨k, lk, Rk, ck, rfl, hg, hA⟩ := hrel
      by_cases hk : k < ns.length
      · have hkI : (k : Int) < (ns.length : Int) := by omega
        obtain ⟨n, hn⟩ : ∃ n, ns[k]? = some n := ⟨_, List.getElem?_eq_getElem hk⟩
        obtain ⟨g, cap, hv, hgl, _, _, hcell⟩ := HV.out.2.2.2.1.form (by omega)
        injection hv with hA' _ hc
        subst hA' hc
        obtain ⟨N, hN⟩ : ∃ N : ByteArray, (⟨n.toArray⟩ : ByteArray) = N := ⟨_, rfl⟩
        have hNd : N.data.toList = n := by subst hN; rfl
        have e0 : wr.cell? ⟨g, k, none⟩ = some (.string N) := by
          rw [← hN]
          exact (hA.out.2.1.cell (p := ⟨g, k, none⟩) (HV.out.2.2.2.2.2.1 g rfl)).trans (hcell k _ (strs_at hn))
        have hnn := HE.out.1.2.2.2.2 n (List.mem_of_getElem? hn)
        have htk : ns.take (k + 1) = ns.take k ++ [n] := by rw [List.take_add_one, hn]; rfl
        have hfl := flatten_take hn
        have hNs : N.size = n.length := by rw [← hNd]; simp
        have HR := Lib.hid (And.intro (And.intro (And.intro hk (And.intro hNd htk.symm)) hnn) (And.intro (show isName N.data.toList = true by rw [hNd]; exact hnn) (show (ns.take k).flatten.length + N.size ≤ ns.flatten.length by rw [hNs]; exact hfl)))
        clear hk hn hcell hN hNd hnn htk hfl hNs
        by_cases h33 : t = 33
        · subst h33
          have HC := Lib.hid (wFull_any N HR.out.2.1 hA.out.1 (by have := put_len hA.out.2.2.1; have := HR.out.2.2; have := HE.out; omega) (by have := HH.out.2.2.2.1; omega) (by have := hA.out.2.2.2; have := HH.out.2.2.2.2.1; have := HE.out; omega) (fun k p h => (hA.out.2.2.1.1.2 k p h).1))
          go_wp2_with (fail)
          with_reducible refine HC.out.mono ?_
          rintro e w6 ⟨rfl, ⟨c6, hc6, hw6⟩, hk6⟩
          have hp6 := put_more (decide ((33 : Int) ≠ 33)) hA.out.2.2.1 HR.out.2.1
          rw [show decide ((33 : Int) ≠ 33) = false from rfl] at hp6
          have H6 := Lib.hid (And.intro hw6 (And.intro hc6 (And.intro hk6 hp6)))
          clear hw6 hc6 hk6 hp6 HC
          go_wp2_with (fail)
          go_roundg (ns.length - (k + 1))
          case measure => have := hg.out; have := HR.out.1.1.1; omega
          case rel => exact ⟨k + 1, _, _, c6, by go_num, (by show _ = _; have := hg.out; have := HR.out.1.1.1; omega), H6.out.1, hA.out.2.1.trans H6.out.2.2.1, (by rw [show ns.take (k + 1) = ns.take k ++ [N.data.toList] from by rw [HR.out.1.1.2.1]; exact HR.out.1.1.2.2.symm]; first | exact H6.out.2.2.2 | (rw [HT33.out]; exact H6.out.2.2.2)), by have := H6.out.2.1; have := hA.out.2.2.2; omega⟩
        · have h33I : (t == 33) = false := by simp [h33]
          have HT33 := Lib.hid (show decide (t ≠ 33) = true by simp [h33])
          clear h33
          have HC := Lib.hid (wName_any N HR.out.2.1 hA.out.1 (by have := put_len hA.out.2.2.1; have := HR.out.2.2; have := HE.out; omega) (by have := HH.out.2.2.2.1; omega) (by have := hA.out.2.2.2; have := HH.out.2.2.2.2.1; have := HE.out; omega) (fun k p h => (hA.out.2.2.1.1.2 k p h).1))
          go_wp2_with (fail)
          with_reducible refine HC.out.mono ?_
          rintro e w6 ⟨rfl, ⟨c6, hc6, hw6⟩, hk6⟩
          have hp6 := put_more (decide (t ≠ 33)) hA.out.2.2.1 HR.out.2.1
          rw [HT33.out] at hp6
          have H6 := Lib.hid (And.intro hw6 (And.intro hc6 (And.intro hk6 hp6)))
          clear hw6 hc6 hk6 hp6 HC
          go_wp2_with (fail)
          go_roundg (ns.length - (k + 1))
          case measure => have := hg.out; have := HR.out.1.1.1; omega
          case rel => exact ⟨k + 1, _, _, c6, by go_num, (by show _ = _; have := hg.out; have := HR.out.1.1.1; omega), H6.out.1, hA.out.2.1.trans H6.out.2.2.1, (by rw [show ns.take (k + 1) = ns.take k ++ [N.data.toList] from by rw [HR.out.1.1.2.1]; exact HR.out.1.1.2.2.symm]; first | exact H6.out.2.2.2 | (rw [HT33.out]; exact H6.out.2.2.2)), by have := H6.out.2.1; have := hA.out.2.2.2; omega⟩
      · have hkI : ¬ (k : Int) < (ns.length : Int) := by omega
        have hkn : ns.take k = ns := List.take_of_length_le (by omega)
        have hP := hA.out.2.2.1
        rw [hkn] at hP
        have hpl := put_len hP
        have gFr := HV.out.2.1.keepK hA.out.2.1 (HV.out.2.2.2.2.1 _ (Nat.le_refl _) hltF)
        have gPr := HV.out.2.2.1.keepK hA.out.2.1 (HV.out.2.2.2.2.1 _ (Nat.le_succ _) hltP)
        have r2 : wr.cell? ⟨w2.heap.size, 2, none⟩ = some (.int .i64 (f.2.2 : Int)) := gFr.cell 2
        have r3 : wr.cell? ⟨w2.heap.size + 1, 2, none⟩ = some (.string PB) := gPr.cell 2
        have HCP := Lib.hid (copies_any 4 f.2.2 (.inr rfl) (by have := HE.out; omega) PB (by have := HE.out.2.2.2.2.1; have := HE.out.1.2.2.2.1; omega) hA.out.1.1 (by have := HE.out; omega) HH.out.2.2.2.1)
        rw [HE.out.2.2.2.2.2.1] at HCP
        have HPP := Lib.hid (put_end hP HQ.out)
        clear hk hkn hP hpl gFr gPr
        go_wp2_with (fail)
        refine HCP.out.mono ?_
        rintro e w6 ⟨rfl, hw6, hk6⟩
        have H6 := Lib.hid (And.intro (hA.out.1.turn hw6 hk6) (hA.out.2.1.trans (hk6.mono fun i hi => .inl hi)))
        clear hw6 hk6 HCP
        go_wp2_with (fail)
        go_ret
        have hkl : ck ≤ cnt + 510 := by
          have := hA.out.2.2.2
          have h2 : k ≤ ns.length := by have := hg.out; omega
          have := HE.out.2.2.2.2.2.2.2
          omega
        refine ⟨rfl, _, Rk, ck, HPP.out.2.2, ?_, HV.out.2.2.2.2.2.2.1.trans (H6.out.2.mono fun i hi => .inl hi), HPP.out.1, HPP.out.2.1, hkl⟩
        obtain ⟨⟨h1, v, h2, h3, h4⟩, h5, h6⟩ := H6.out.1
        exact ⟨⟨fun i hi => h1 i (hi.imp_left .inl), v, h2, h3, fun g hg => ⟨(h4 g hg).1, fun e => (h4 g hg).2 (e.imp_left .inl)⟩⟩, h5, fun e => h6 (.inl e)⟩
end Go.Proofs.Ytgfpnkakglgokaa
