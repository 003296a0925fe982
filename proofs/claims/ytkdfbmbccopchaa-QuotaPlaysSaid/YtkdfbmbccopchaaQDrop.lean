/- The walk of package quota's Drop. -/
import Derived.Test.YtkdfbmbccopchaaQNext
namespace Go.Proofs.Ytkdfbmbccopchaa
open Go.RowKit Go.Lib

def DropPost (g n room each : Nat) (cl : Cl) (O : Nat → Prop) (a : Int) (w : World) (e : Ending) (w' : World) : Prop :=
  e = .returned (.int .i64 ((getC cl a).length : Int)) ∧ QS w' g (n + 1) room each (dropC cl a) (After O w w') ∧ KeepK (fun i => i < w.heap.size ∧ ¬ O i) w w'
theorem dropC_same {cl : Cl} {a : Int} (h : ∀ p ∈ cl, p.1 ≠ a) : dropC cl a = cl := by
  unfold dropC
  rw [List.filter_eq_self]
  intro p hp
  simpa using h p hp
theorem dropC_at : ∀ {cl : Cl} {a : Int}, (cl.map Prod.fst).Nodup → (∃ p ∈ cl, p.1 = a) → ∃ i, (cl.map Prod.fst)[i]? = some a ∧ (∀ j, j < i → (cl.map Prod.fst)[j]? ≠ some a) ∧ (dropC cl a).map Prod.fst = (cl.map Prod.fst).eraseIdx i ∧ (dropC cl a).length + 1 = cl.length ∧ manyC cl = manyC (dropC cl a) + (getC cl a).length
  | [], _, _, h => by obtain ⟨p, hp, _⟩ := h; cases hp
  | p :: t, a, hn, h => by
    rw [List.map_cons, List.nodup_cons] at hn
    by_cases e : p.1 = a
    · have hno : ∀ q ∈ t, q.1 ≠ a := fun q hq he => hn.1 (by rw [e, ← he]; exact List.mem_map.2 ⟨q, hq, rfl⟩)
      have hd : dropC (p :: t) a = t := by
        unfold dropC
        rw [List.filter_cons, if_neg (by simp [e])]
        exact dropC_same hno
      refine ⟨0, by simp [e], fun j hj => absurd hj (Nat.not_lt_zero _), by rw [hd]; rfl, by rw [hd]; rfl, ?_⟩
      rw [hd, manyC_cons]
      unfold getC
      rw [if_pos e]
      omega
    · obtain ⟨q, hq, hqa⟩ := h
      have hq' : q ∈ t := (List.mem_cons.1 hq).resolve_left fun h => e (by rw [← h]; exact hqa)
      obtain ⟨i, h1, h2, h3, h4, h5⟩ := dropC_at hn.2 ⟨q, hq', hqa⟩
      have hd : dropC (p :: t) a = p :: dropC t a := by
        unfold dropC
        rw [List.filter_cons, if_pos (by simpa using e)]
      refine ⟨i + 1, by simpa using h1, fun j hj => ?_, by rw [hd, List.map_cons, h3]; rfl, by rw [hd, List.length_cons, h4]; rfl, ?_⟩
      · cases j with
        | zero => simpa using e
        | succ j => simpa using h2 j (by omega)
      · rw [hd, manyC_cons, manyC_cons, h5]
        conv => rhs; unfold getC
        rw [if_neg e]
        omega

set_option maxRecDepth 100000 in
set_option maxHeartbeats 2000000 in
theorem Drop_none {g n room each : Nat} {cl : Cl} {O : Nat → Prop} (w : World) (h : QS w g n room each cl O) (a : Int) (h0 : 0 ≤ a) (hm : a ≤ 4294967295) (hno : getC cl a = []) (hk : ∀ p ∈ cl, p.1 ≠ a) :
    Calls Try.prog 20 #[.pointer (some ⟨g, 0, none⟩), .int .u32 a] w (DropPost g n room each cl O a w) := by
  have HQ := Lib.hid h
  obtain ⟨mb, rv, F, ⟨h1, h2, h3⟩, ⟨_, h5, h6⟩, _⟩ := h
  have c4 : w.cell? ⟨g, 4, none⟩ = some (.map (some mb)) := h1.cell 4
  have hlk := h3.look h0 hm
  rw [h6 a hno] at hlk
  unfold nilS at hlk
  have HK := Lib.hid (And.intro hno hk)
  clear h1 h2 h3 h5 h6 hno hk
  go_enter Try.func20, Try.ntmps20
  go_wp2_with (fail)
  go_ret
  unfold DropPost
  rw [HK.out.1, dropC_same HK.out.2]
  exact ⟨rfl, HQ.out.more (Nat.le_succ _) (fun i hi => .inl hi), KeepK.refl _ _⟩

set_option maxRecDepth 100000 in
set_option maxHeartbeats 8000000 in
theorem Drop_some {g n room each : Nat} {cl : Cl} {O : Nat → Prop} (w : World) (h : QS w g n room each cl O) (a : Int) (h0 : 0 ≤ a) (hm : a ≤ 4294967295) (hn : n ≤ 1000000) (hcl : cl.length ≤ 1000000) (hmany : manyC cl ≤ 1000000) (hex : ∃ p ∈ cl, p.1 = a) (hne : getC cl a ≠ []) :
    Calls Try.prog 20 #[.pointer (some ⟨g, 0, none⟩), .int .u32 a] w (DropPost g n room each cl O a w) := by
  obtain ⟨mb, rv, F, ⟨h1, h2, h3⟩, ⟨h4, h5, h6⟩, ho⟩ := h
  have ho' := ho
  obtain ⟨⟨o1, o2, o3⟩, o4, o5, o6⟩ := ho'
  have hclp : 0 < cl.length := by
    obtain ⟨p, hp, _⟩ := hex
    exact List.length_pos_of_mem hp
  obtain ⟨i, k1, k2, k3, k4, k5⟩ := dropC_at h4.nodup hex
  obtain ⟨rg, cap, rfl, hrg, hrc, _, _⟩ := h2.form hclp
  have c2 : w.cell? ⟨g, 2, none⟩ = some (.int .i64 (manyC cl : Int)) := h1.cell 2
  have c3 : w.cell? ⟨g, 3, none⟩ = some (.slice (some ⟨rg, 0, none⟩) cl.length cap) := h1.cell 3
  have c4 : w.cell? ⟨g, 4, none⟩ = some (.map (some mb)) := h1.cell 4
  have hgl : g < w.heap.size := h1.lt
  have hgr : g ≠ rg := fun e => (o4 rg rfl).2.1 e.symm
  have hmr : mb ≠ rg := fun e => (o4 rg rfl).2.2 e.symm
  obtain ⟨A, c, hF, _, _⟩ := (h5 a).shape
  have hlk := h3.look h0 hm
  rw [hF] at hlk
  obtain ⟨l, hl⟩ : ∃ l, (getC cl a).length = l := ⟨_, rfl⟩
  have hl1 : 1 ≤ l := by rw [← hl]; exact List.length_pos_iff.2 hne
  rw [hl] at hlk k5
  obtain ⟨m, hmm⟩ : ∃ m, manyC cl = m := ⟨_, rfl⟩
  rw [hmm] at c2 hmany k5 h1
  obtain ⟨w1, hrun1, hm1, ht1⟩ := h3.del h0 hm 0
  have hkt := keep_turned ht1
  have d2 : w1.cell? ⟨g, 2, none⟩ = some (.int .i64 (m : Int)) := (hkt.cell (p := ⟨g, 2, none⟩) ⟨hgl, o3⟩).trans c2
  have d3 : w1.cell? ⟨g, 3, none⟩ = some (.slice (some ⟨rg, 0, none⟩) cl.length cap) := (hkt.cell (p := ⟨g, 3, none⟩) ⟨hgl, o3⟩).trans c3
  have hrgown : ∀ (q : Nat) k, (Value.slice (some ⟨rg, 0, none⟩) q cap).ownBlock = some k → rg = k := fun q k hk => by simpa [Value.ownBlock] using hk
  have hR1 : Sl w1 1 (.slice (some ⟨rg, 0, none⟩) cl.length cap) cl.length (cl.map fun p => u32V p.1) := h2.keepK hkt fun k hk => ⟨h2.lt k hk, by rw [← hrgown _ k hk]; exact hmr.symm⟩
  have hkeys : (cl.map fun p => u32V p.1) = (cl.map Prod.fst).map (Value.int .u32) := by rw [List.map_map]; rfl
  have hix := indexU_any (cl.map Prod.fst) (some ⟨rg, 0, none⟩) cap a w1 (by
    rw [← hkeys]
    have h := hR1
    have e : cl.length = (cl.map fun p => u32V p.1).length := by simp
    rw [e] at h
    exact ttab_of_sl h) (by simpa using hcl)
  rw [idxZ_at k1 k2, List.length_map] at hix
  have hic : i < cl.length := by
    have := (List.getElem?_eq_some_iff.1 k1).1
    simpa using this
  have hdl := deleteU_any rg cap cl.length i (cl.map fun p => u32V p.1) w1 hR1 (fun u hu => by obtain ⟨p, _, rfl⟩ := List.mem_map.1 hu; rfl) hic hcl
  have hll : cl.length - 1 = (dropC cl a).length := by omega
  rw [hll] at hdl
  have HIX := Lib.hid hix
  have HDL := Lib.hid hdl
  have hlI : ((l : Int) == 0) = false := by simp; omega
  have hlI2 : (l : Int) ≤ (m : Int) := by omega
  have hmI : (m : Int) ≤ 1000000 := by omega
  have hiI : (i : Int) ≤ 1000000 := by omega
  have HST := Lib.hid (And.intro h1 (And.intro h2 (And.intro h3 (And.intro h4 (And.intro h5 (And.intro h6 (And.intro ho (And.intro hm1 (And.intro hkt (And.intro hR1 (And.intro k3 (And.intro k5 (And.intro hl hkeys)))))))))))))
  have f2 : w.frozen? ⟨g, 2, none⟩ = false := h1.frozen 2
  have f3 : w.frozen? ⟨g, 3, none⟩ = false := h1.frozen 3
  have p2 : w1.frozen? ⟨g, 2, none⟩ = false := (hkt.frozen (p := ⟨g, 2, none⟩) ⟨hgl, o3⟩).trans f2
  have p3 : w1.frozen? ⟨g, 3, none⟩ = false := (hkt.frozen (p := ⟨g, 3, none⟩) ⟨hgl, o3⟩).trans f3
  have hz1 := hkt.size
  have H3 := Lib.hid (And.intro hn (And.intro o3 hmm))
  clear h1 h2 h3 h4 h5 h6 ho o1 o2 o3 o4 o5 o6 k1 k2 k3 k4 k5 hF hl hix hdl hR1 hkeys hm1 ht1 hkt f2 f3 c2 c3 hex hne hll hn hcl hmm
  go_enter Try.func20, Try.ntmps20
  go_wp2_with (fail)
  with_reducible refine HIX.out.mono ?_
  rintro e w2 ⟨rfl, rfl⟩
  go_wp2_with (fail)
  with_reducible refine HDL.out.mono ?_
  rintro e w3 ⟨rfl, hd1, hd2⟩
  have hgl1 : g < w1.heap.size := by omega
  have e2 : w3.cell? ⟨g, 2, none⟩ = some (.int .i64 (m : Int)) := (hd2.cell (p := ⟨g, 2, none⟩) ⟨hgl1, hgr⟩).trans d2
  have e3 : w3.cell? ⟨g, 3, none⟩ = some (.slice (some ⟨rg, 0, none⟩) cl.length cap) := (hd2.cell (p := ⟨g, 3, none⟩) ⟨hgl1, hgr⟩).trans d3
  have q2 : w3.frozen? ⟨g, 2, none⟩ = false := (hd2.frozen (p := ⟨g, 2, none⟩) ⟨hgl1, hgr⟩).trans p2
  have q3 : w3.frozen? ⟨g, 3, none⟩ = false := (hd2.frozen (p := ⟨g, 3, none⟩) ⟨hgl1, hgr⟩).trans p3
  have HD := Lib.hid (And.intro hd1 hd2)
  clear hd1 hd2 p2 p3 d2 d3 hrun1 hlk c4
  go_wp2_with (fail)
  go_ret
  obtain ⟨h1, h2, h3, h4, h5, h6, ho, hm1, hkt, hR1, k3, k5, hl, hkeys⟩ := HST.out
  obtain ⟨hd1, hd2⟩ := HD.out
  obtain ⟨hn, o3, hmm⟩ := H3.out
  have hz3 := hd2.size
  have hmc : ((m : Int) - (l : Int)) = (manyC (dropC cl a) : Int) := by omega
  have hsz : ((w3.setCell ⟨g, 3, none⟩ (.slice (some ⟨rg, 0, none⟩) (dropC cl a).length cap)).setCell ⟨g, 2, none⟩ (.int .i64 ((m : Int) - (l : Int)))).heap.size = w3.heap.size := by simp [World.setCell]
  have hks : (dropC cl a).map (fun p => u32V p.1) = (cl.map fun p => u32V p.1).eraseIdx i := by
    have hme : ∀ (l : List Int) (i : Nat), (l.map (Value.int .u32)).eraseIdx i = (l.eraseIdx i).map (Value.int .u32) := fun l i => by
      rw [List.eraseIdx_eq_take_drop_succ, List.eraseIdx_eq_take_drop_succ, List.map_append, List.map_take, List.map_drop]
    rw [hkeys, hme, ← k3, List.map_map]
    rfl
  have kset : ∀ (K : Nat → Prop), (∀ i, K i → i ≠ g) → KeepK K w3 ((w3.setCell ⟨g, 3, none⟩ (.slice (some ⟨rg, 0, none⟩) (dropC cl a).length cap)).setCell ⟨g, 2, none⟩ (.int .i64 ((m : Int) - (l : Int)))) := fun K hK =>
    ((KeepK.refl _ w3).setCell (p := ⟨g, 3, none⟩) hK _).setCell (p := ⟨g, 2, none⟩) hK _
  have hfin := qs_turn (O := O) (room := room) (each := each) (cl' := dropC cl a) (a := a) (ys := []) (rv' := .slice (some ⟨rg, 0, none⟩) (dropC cl a).length cap) (v' := nilS) (n' := n + 1) (w' := (w3.setCell ⟨g, 3, none⟩ (.slice (some ⟨rg, 0, none⟩) (dropC cl a).length cap)).setCell ⟨g, 2, none⟩ (.int .i64 ((m : Int) - (l : Int)))) hgl h2 h3.lt h5 h6 ho
    (by
      have h := (((h1.keepK hkt ⟨hgl, o3⟩).keepK hd2 ⟨hgl1, hgr⟩).set_ 3 (.slice (some ⟨rg, 0, none⟩) (dropC cl a).length cap)).set_ 2 (.int .i64 ((m : Int) - (l : Int)))
      rw [← hmc]
      exact h)
    (by
      rw [hks]
      exact hd1.keepK (kset (fun i => i ≠ g) fun i hi => hi) fun k hk => by rw [← hrgown _ k hk]; exact hgr.symm)
    (by
      have h8 := (hm1.keepK hd2 ⟨hm1.lt, hmr⟩).keepK (kset (fun i => i ≠ g) fun i hi => hi) o3.symm
      obtain ⟨D, hD, hF⟩ := h8
      exact ⟨D, hD.mono (Nat.le_succ _), hF⟩)
    (h4.drop a)
    (Sl.nil _ _)
    (fun b => dropC_get cl a b)
    (fun _ => rfl)
    (((hkt.mono fun i hi => ⟨hi.1, hi.2.2.1⟩).trans (hd2.mono fun i hi => ⟨Nat.lt_of_lt_of_le hi.1 hz1, fun e => hi.2.2.2.1 (by rw [e]; rfl)⟩)).trans (kset _ fun i hi => hi.2.1))
    (fun k hk => by simp [nilS, Value.ownBlock] at hk)
    (fun k hk => .inl (by rw [← hrgown _ k hk]; rfl))
    (fun k hk => by simp [nilS, Value.ownBlock] at hk)
  unfold DropPost
  rw [hl]
  exact ⟨rfl, hfin.1, hfin.2⟩
theorem Drop_q {g n room each : Nat} {cl : Cl} {O : Nat → Prop} (w : World) (h : QS w g n room each cl O) (a : Int) (h0 : 0 ≤ a) (hm : a ≤ 4294967295) (hn : n ≤ 1000000) (hcl : cl.length ≤ 1000000) (hmany : manyC cl ≤ 1000000) :
    Calls Try.prog 20 #[.pointer (some ⟨g, 0, none⟩), .int .u32 a] w (DropPost g n room each cl O a w) := by
  have hok : OkC cl := by
    obtain ⟨_, _, _, _, ⟨h4, _⟩, _⟩ := h
    exact h4
  rcases getC_has hok a with ⟨p, hp, hpa, _, hne⟩ | ⟨hno, hg⟩
  · exact Drop_some w h a h0 hm hn hcl hmany ⟨p, hp, hpa⟩ hne
  · exact Drop_none w h a h0 hm hg hno
end Go.Proofs.Ytkdfbmbccopchaa
