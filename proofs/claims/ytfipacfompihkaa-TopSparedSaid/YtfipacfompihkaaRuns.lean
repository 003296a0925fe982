/- The walks of pick.runs and its iterator, over peers that failed equally often. Conditions: none. -/
import Derived.Test.YtfipacfompihkaaPeM
import Derived.Test.YtfipacfompihkaaRangeK
import Derived.Sort.LoopGhostIn
import Derived.Sort.QuietIn
import Derived.OwnWalkIn
import Derived.IntWalk
namespace Go.Proofs.Ytfipacfompihkaa
open Go.RowKit Go.Lib
attribute [local go_sem] Oper.semAt_some

theorem KeepS.cellP {S : Nat → Prop} {U V : World} (h : KeepS S U V) {a : Addr} (ha : a.block < U.heap.size) (hs : S a.block) : V.cell? a = U.cell? a := World.cell?_of_block (h.same _ ha hs)
/-- The one run, if there is any. -/
def oneL (xs : List Pe) : List Unit := if xs.length = 0 then [] else [()]
theorem runs1_K (xs : List Pe) (A : Option Addr) (c Bl : Nat) (K : Nat → Prop) (w : World) (hB : Blk w Bl 31 #[.slice A xs.length c]) (hS : PeS w A c xs) (hE : ∀ x ∈ xs, ∀ y ∈ xs, x.f = y.f) (hn : xs.length ≤ 100) (hK : K Bl) (hKA : 0 < xs.length → ∀ a, A = some a → K a.block) :
    SeqK Try.prog 73 #[.pointer (some ⟨Bl, 0, none⟩)] (fun _ : Unit => #[.slice A xs.length c]) K (oneL xs) w := by
  intro m l J Jx W hW hJ hJx hY h0
  obtain ⟨n, hn8⟩ : ∃ n : Nat, 8 ≤ n := ⟨8, by omega⟩
  refine callsIn_wide.2 ((callsIn_wide (n := n)).1 ?_)
  have h1n : 1 ≤ n := by omega
  have H := Lib.hid (And.intro hB (And.intro hS (And.intro hE (And.intro hn (And.intro hK hKA)))))
  have KW := Lib.hid (KeepS.of_below hW : KeepS K w W)
  have c1 : W.cell? ⟨Bl, 0, none⟩ = some (.slice A xs.length c) := (KW.out.cellP (a := ⟨Bl, 0, none⟩) hB.lt hK).trans (hB.cell 0)
  have hlI : (xs.length : Int) ≤ 100 := by omega
  have HJ := Lib.hid (And.intro hJ (And.intro hJx hY))
  have H0 := Lib.hid h0
  clear hW hJ hJx hY h0 hB hS hE hn hK hKA
  by_cases hx : xs.length = 0
  · have hL : oneL xs = [] := by unfold oneL; rw [if_pos hx]
    rw [hL]
    have hx0 : ¬ (0 : Int) < (xs.length : Int) := by omega
    clear hx hL
    refine callsIn_of_wp Try.func73 rfl trivial ?_ rfl
    simp only [Try.ntmps73, List.size_toArray, List.length_cons, List.length_nil, Nat.reduceAdd, Nat.reduceSub, Array.replicate_succ, Array.replicate_zero, List.push_toArray, List.append_toArray, List.nil_append, List.cons_append]
    gi_wp2_with (fail)
    gi_loopg [3, 4] 0 (fun g v3 _ wr => v3 = .int .i64 0 ∧ wr = W)
    case atStart => exact ⟨rfl, rfl⟩
    case round =>
      obtain ⟨rfl, hwr⟩ := hrel
      subst hwr
      gi_wp2_with (fail)
      refine bodyPost_end (results_none rfl _ _ _) rfl ?_
      exact ⟨⟨_, rfl⟩, .inl H0.out⟩
  · have hL : oneL xs = [()] := by unfold oneL; rw [if_neg hx]
    rw [hL]
    have HL := Lib.hid hL
    have hx0 : (0 : Int) < (xs.length : Int) := by omega
    have HX := Lib.hid hx
    clear hx hL
    refine callsIn_of_wp Try.func73 rfl trivial ?_ rfl
    simp only [Try.ntmps73, List.size_toArray, List.length_cons, List.length_nil, Nat.reduceAdd, Nat.reduceSub, Array.replicate_succ, Array.replicate_zero, List.push_toArray, List.append_toArray, List.nil_append, List.cons_append]
    gi_wp2_with (fail)
    gi_loopg [3, 4] 1 (fun g v3 _ wr => (g = 1 ∧ v3 = .int .i64 0 ∧ wr = W) ∨ (g = 0 ∧ v3 = .int .i64 (xs.length : Int) ∧ Aside (J [()] wr ∧ KeepS K w wr)))
    case atStart => exact .inl ⟨rfl, rfl, rfl⟩
    case round =>
      rcases hrel with ⟨rfl, rfl, hwr⟩ | ⟨rfl, rfl, hj⟩
      · subst hwr
        obtain ⟨y, hy⟩ : ∃ y, xs[0]? = some y := ⟨_, List.getElem?_eq_getElem (by have := HX.out; omega)⟩
        have hWw : PeS wr A c xs := H.out.2.1.keep KW.out.size fun g hg => by
          have h1 := HX.out
          obtain ⟨q, cap, hv, _, _, _, _⟩ := Sl.form H.out.2.1 (by omega)
          injection hv with hv _ _
          subst hv
          have hgq : q = g := by simpa [Value.ownBlock] using hg
          subst hgq
          exact KW.out.same _ (H.out.2.1.lt q rfl) (H.out.2.2.2.2.2 (by omega) _ rfl)
        obtain ⟨q, rfl, hq, _, _, _, y3, _⟩ := hWw.cells hy
        have HE := Lib.hid (fun (e : Nat) (x : Pe) (hx : xs[e]? = some x) => H.out.2.2.1 x (List.mem_of_getElem? hx) y (List.mem_of_getElem? hy))
        have hBlW : Bl < wr.heap.size := Nat.lt_of_lt_of_le H.out.1.lt KW.out.size
        have KF := Lib.hid (fun ws (hb : Below wr.heap.size wr ws) => show ws.cell? ⟨Bl, 0, none⟩ = some (.slice (some ⟨q, 0, none⟩) xs.length c) ∧ (∀ e x, xs[e]? = some x → ws.cell? ⟨q, e * 5 + 3, none⟩ = some (.int .i64 y.f)) ∧ J [] ws ∧ KeepS K w ws from by
          refine ⟨(hb.cell (p := ⟨Bl, 0, none⟩) hBlW).trans c1, fun e x hx => ?_, HJ.out.1 _ _ _ H0.out hb, KW.out.trans (.of_below hb)⟩
          obtain ⟨q2, hq2, _, _, _, _, h3, _⟩ := (hWw.below hb).cells hx
          injection hq2 with hq2
          injection hq2 with hq2 _ _
          subst hq2
          rw [h3, HE.out e x hx])
        have hcI : (xs.length : Int) ≤ (c : Int) ∧ (c : Int) ≤ 9223372036854775807 := by
          have h1 := HX.out
          obtain ⟨q3, cap, hv, _, h3, h4, _⟩ := Sl.form H.out.2.1 (by omega)
          injection hv with _ _ hv
          unfold maxLen at h4
          omega
        obtain ⟨hc1, hc2⟩ := hcI
        have hcN : xs.length ≤ c := by omega
        clear hy hWw hq hBlW
        gi_wp2_with (fail)
        gi_loopg [4] (xs.length - 1) (fun g v4 ws => ∃ e : Nat, v4 = .int .i64 (e : Int) ∧ Aside (g + e = xs.length ∧ 1 ≤ e ∧ e ≤ xs.length) ∧ Aside (Below wr.heap.size wr ws))
        case atStart => exact ⟨1, rfl, ⟨by have := HX.out; omega, Nat.le_refl _, by have := HX.out; omega⟩, Below.refl _ _⟩
        case round =>
          obtain ⟨e, rfl, he, hB⟩ := hrel
          have c2 := (KF.out wr hB.out).1
          have heI : (e : Int) ≤ 100 := by have := he.out; omega
          clear c1 y3
          by_cases hlt : e < xs.length
          · have hltI : (e : Int) < (xs.length : Int) := by omega
            obtain ⟨x, hx⟩ : ∃ x, xs[e]? = some x := ⟨_, List.getElem?_eq_getElem hlt⟩
            obtain ⟨x0, hx0⟩ : ∃ x, xs[0]? = some x := ⟨_, List.getElem?_eq_getElem (by have := HX.out; omega)⟩
            have d1 := (KF.out wr hB.out).2.1 e x hx
            have d2 := (KF.out wr hB.out).2.1 0 x0 hx0
            simp only [Nat.zero_mul, Nat.zero_add] at d2
            have hyy : (y.f == y.f) = true := by simp
            have hld : decide ((e : Int) < (xs.length : Int)) = true := by simpa using hltI
            clear hlt hx hx0
            gi_wp2_with (fail)
            gi_quiet (fail)
            gi_wp2_with (fail)
            gi_roundg (xs.length - (e + 1))
            case measure => have := he.out; have := hltI; omega
            case rel => exact ⟨e + 1, by go_num, ⟨by have := hltI; omega, by omega, by have := hltI; omega⟩, below_drewN hB.out nq⟩
          · have hee : e = xs.length := by have := he.out; omega
            subst hee
            have hltI : ¬ (xs.length : Int) < (xs.length : Int) := by omega
            have hld : decide ((xs.length : Int) < (xs.length : Int)) = false := by simp
            clear hlt
            gi_wp2_with (fail)
            gi_quiet (fail)
            obtain ⟨WY, hWY⟩ : ∃ X, wr.drewN nq = X := ⟨_, rfl⟩
            obtain ⟨c3, _, hj0, hk0⟩ := KF.out WY (by rw [← hWY]; exact below_drewN hB.out nq)
            rw [hWY]
            obtain ⟨fn, tmps, assign, body, hyl, hR⟩ := yield_deep (m := n - 1) (HJ.out.2.2 [] () WY hj0 (by rw [HL.out]; exact List.prefix_refl _))
            have HR := Lib.hid (And.intro hk0 hR)
            clear hWY hj0 hk0 hR c2
            gi_wp2_with (fail)
            refine HR.out.2.mono ?_
            rintro e W3 (⟨rfl, h1, h2⟩ | ⟨rfl, h1⟩)
            · have H1 := Lib.hid (And.intro h1 (HR.out.1.trans h2))
              clear h1 h2
              gi_wp2_with (fail)
              gi_roundg 0
              case measure => omega
              case rel => exact .inr ⟨rfl, rfl, H1.out⟩
            · have H1 := Lib.hid h1
              clear h1
              gi_wp2_with (fail)
              refine bodyPost_ret (results_none rfl _ _ _) rfl ?_
              exact ⟨⟨_, rfl⟩, .inr ⟨_, List.prefix_refl _, H1.out⟩⟩
      · have hjk := hj.out
        have c2 : wr.cell? ⟨Bl, 0, none⟩ = some (.slice A xs.length c) := (hjk.2.cellP (a := ⟨Bl, 0, none⟩) H.out.1.lt H.out.2.2.2.2.1).trans (H.out.1.cell 0)
        have hll : ¬ (xs.length : Int) < (xs.length : Int) := by omega
        clear hjk
        gi_wp2_with (fail)
        refine bodyPost_end (results_none rfl _ _ _) rfl ?_
        exact ⟨⟨_, rfl⟩, .inl hj.out.1⟩
theorem runs_any (A : Option Addr) (n c : Nat) (w : World) :
    Calls Try.prog 38 #[.slice A n c] w fun e w' => e = .returned (.func (.func 73) #[] #[.pointer (some ⟨w.heap.size, 0, none⟩)]) ∧ w' = w.alloc (.cells #[.slice A n c] 31) := by
  go_enter Try.func38, Try.ntmps38
  go_wp2
  go_ret
  exact ⟨rfl, rfl⟩
end Go.Proofs.Ytfipacfompihkaa
