/- The walk of slices.stableCmpFunc at up to 1000 places. -/
import Derived.Test.YtjhhhkhcnohmiaaSymG
import Derived.Test.YtjhhhkhcnohmiaaStable
namespace Go.Proofs.Ytjhhhkhcnohmiaa
open Go.RowKit Go.Lib

/-- A row of full blocks, each in order. -/
def Full (bs : Nat) (Cs : List (List Pl)) : Prop := ∀ C ∈ Cs, C.length = bs ∧ SrtK Pl.L cmpL C
theorem Full.snoc {bs : Nat} {Cs : List (List Pl)} {M : List Pl} (h : Full bs Cs) (hl : M.length = bs) (hs : SrtK Pl.L cmpL M) : Full bs (Cs ++ [M]) := fun C hC => by
  rcases List.mem_append.1 hC with h1 | h1
  · exact h C h1
  · rw [List.mem_singleton.1 h1]; exact ⟨hl, hs⟩
theorem flat_snoc (Cs : List (List Pl)) (M : List Pl) : (Cs ++ [M]).flatten = Cs.flatten ++ M := by simp
theorem sts_mid {X M M' Y P : List Pl} (h : StS Pl.L M' M) (g : StS Pl.L (X ++ (M ++ Y)) P) : StS Pl.L (X ++ (M' ++ Y)) P :=
  ((StS.refl X).append (h.append (StS.refl Y))).trans g
theorem PlOk.sts {w w' : World} {g : Nat} {D P : List Pl} (h : PlOk w g P) (hs : StS Pl.L D P) (hk : KeepK (fun i => i < w.heap.size ∧ i ≠ g) w w') : PlOk w' g D := (h.keep hk).mem fun _ hq => hs.mem hq
theorem sym_go (g c N a m b : Nat) (X L R Y : List Pl) (w : World) (hn : N ≤ 1000000) (hS : Sl w 2 (.slice (some ⟨g, 0, none⟩) N c) N (plC (X ++ ((L ++ R) ++ Y)))) (hP : PlOk w g (L ++ R))
    (hN : (X ++ ((L ++ R) ++ Y)).length = N) (ha : a = X.length) (hm : m = a + L.length) (hb : b = m + R.length) (hL1 : 1 ≤ L.length) (hR1 : 1 ≤ R.length) (hL : SrtK Pl.L cmpL L) (hR : SrtK Pl.L cmpL R) :
    Calls Try.prog 92 #[.slice (some ⟨g, 0, none⟩) N c, .int .i64 (a : Int), .int .i64 (m : Int), .int .i64 (b : Int), .func (.func 69) #[] #[]] w (MgPost g c N X (L ++ R) Y w) :=
  sym_any g c N hn (L.length + R.length + 1) a m b X L R Y w (Nat.lt_succ_self _) hS hP hN ha hm hb hL1 hR1 hL hR
theorem keep_on {g : Nat} {w w1 w2 : World} (h : KeepK (fun i => i < w.heap.size ∧ i ≠ g) w w1) (k : KeepK (fun i => i < w1.heap.size ∧ i ≠ g) w1 w2) : KeepK (fun i => i < w.heap.size ∧ i ≠ g) w w2 :=
  h.trans (k.mono fun _ hi => ⟨Nat.lt_of_lt_of_le hi.1 h.size, hi.2⟩)
theorem pair_next {bs : Nat} {Es : List (List Pl)} {L : List Pl} (h : Full bs Es) (hl : L.length ≤ bs) (hs : SrtK Pl.L cmpL L) (hb : 1 ≤ bs) (h2 : 2 * bs ≤ (Es.flatten ++ L).length) :
    ∃ (A1 A2 : List Pl) (Es' : List (List Pl)) (L' : List Pl), Es.flatten ++ L = (A1 ++ A2) ++ (Es'.flatten ++ L') ∧ A1.length = bs ∧ A2.length = bs ∧ SrtK Pl.L cmpL A1 ∧ SrtK Pl.L cmpL A2 ∧ Full bs Es' ∧ L'.length ≤ bs ∧ SrtK Pl.L cmpL L' := by
  match Es, h, h2 with
  | [], _, h2 => simp at h2; omega
  | [F], h, h2 =>
    have hF := h F (by simp)
    refine ⟨F, L, [], [], by simp, hF.1, ?_, hF.2, hs, fun C hC => absurd hC List.not_mem_nil, by simp, List.Pairwise.nil⟩
    simp at h2
    have := hF.1
    omega
  | F :: G :: Es, h, _ =>
    have hF := h F (by simp)
    have hG := h G (by simp)
    exact ⟨F, G, Es, L, by simp, hF.1, hG.1, hF.2, hG.2, fun C hC => h C (by simp [hC]), hl, hs⟩
theorem small_srt {bs : Nat} {Es : List (List Pl)} {L : List Pl} (h : Full bs Es) (hs : SrtK Pl.L cmpL L) (hb : 1 ≤ bs) (h2 : (Es.flatten ++ L).length ≤ bs) : SrtK Pl.L cmpL (Es.flatten ++ L) := by
  match Es, h, h2 with
  | [], _, _ => simpa using hs
  | [F], h, h2 =>
    have hF := h F (by simp)
    simp at h2
    have h3 := hF.1
    have : L = [] := List.eq_nil_of_length_eq_zero (by omega)
    rw [this]
    simpa using hF.2
  | F :: G :: Es, h, h2 =>
    have hF := (h F (by simp)).1
    have hG := (h G (by simp)).1
    simp at h2
    omega
theorem pair_last {bs : Nat} {Es : List (List Pl)} {L : List Pl} (h : Full bs Es) (hl : L.length ≤ bs) (h2 : bs < (Es.flatten ++ L).length) (h3 : (Es.flatten ++ L).length < 2 * bs) :
    ∃ F, Es = [F] ∧ F.length = bs ∧ SrtK Pl.L cmpL F ∧ 1 ≤ L.length := by
  match Es, h, h2, h3 with
  | [], _, h2, _ => simp at h2; omega
  | [F], h, h2, _ =>
    have hF := h F (by simp)
    simp at h2
    exact ⟨F, rfl, hF.1, hF.2, by have := hF.1; omega⟩
  | F :: G :: Es, h, _, h3 =>
    have hF := (h F (by simp)).1
    have hG := (h G (by simp)).1
    simp at h3
    omega

set_option maxRecDepth 100000 in
set_option maxHeartbeats 8000000 in
theorem stable_all : StableOk 1000 := by
  intro g c P w hS hP hn
  obtain ⟨N, hN⟩ : ∃ N, P.length = N := ⟨_, rfl⟩
  rw [hN] at hS hn
  unfold StabPost
  rw [hN]
  have hNI : (N : Int) ≤ 1000 := by omega
  have HS := Lib.hid (And.intro hS (And.intro hP (And.intro hN hn)))
  clear hS hP hN hn
  go_enter Try.func86, Try.ntmps86
  go_wp2_with (fail)
  go_loopg [7, 8] N (fun gg v7 v8 wr => ∃ (a b : Nat) (Cs : List (List Pl)), v7 = .int .i64 (a : Int) ∧ v8 = .int .i64 (b : Int) ∧ Aside (gg + a = N ∧ b = a + 20 ∧ a = Cs.flatten.length) ∧ Aside (Full 20 Cs) ∧ Aside (StS Pl.L (Cs.flatten ++ P.drop a) P) ∧ Aside (Sl wr 2 (.slice (some ⟨g, 0, none⟩) N c) N (plC (Cs.flatten ++ P.drop a))) ∧ Aside (KeepK (fun i => i < w.heap.size ∧ i ≠ g) w wr))
  case atStart => exact ⟨0, 20, [], rfl, rfl, ⟨rfl, rfl, rfl⟩, (show Aside _ from fun C hC => absurd hC List.not_mem_nil), StS.refl _, HS.out.1, KeepK.refl _ _⟩
  case round =>
    obtain ⟨a, b, Cs, rfl, rfl, hab, hF, hst, hRow, hK⟩ := hrel
    have hPl : PlOk wr g (Cs.flatten ++ P.drop a) := HS.out.2.1.sts hst.out hK.out
    have haI : (a : Int) ≤ 1000 := by have := hab.out; omega
    have hbI : (b : Int) ≤ 1020 := by have := hab.out; omega
    have hNa : (Cs.flatten ++ P.drop a).length = N := by have := hab.out; have := HS.out.2.2.1; rw [List.length_append, List.length_drop]; omega
    by_cases hlt : b ≤ N
    · have hltI : (b : Int) ≤ (N : Int) := by omega
      have e1 : Cs.flatten ++ ((P.drop a).take 20 ++ (P.drop a).drop 20) = Cs.flatten ++ P.drop a := by rw [List.take_append_drop]
      have h1 := insSort_any g c a b Cs.flatten ((P.drop a).take 20) ((P.drop a).drop 20) wr (by rw [e1, hNa]; exact hRow.out) (by rw [e1]; exact hPl) (by rw [e1, hNa]; omega) hab.out.2.2 (by have := hab.out; have := HS.out.2.2.1; rw [List.length_take, List.length_drop]; omega)
      rw [e1, hNa] at h1
      have hlt20 : ((P.drop a).take 20).length = 20 := by have := hab.out; have := HS.out.2.2.1; rw [List.length_take, List.length_drop]; omega
      have HC := Lib.hid (And.intro h1 (And.intro hlt20 (And.intro e1 (And.intro hlt hNa))))
      clear h1 e1 hlt20 hPl hlt hNa
      go_wp2_with (fail)
      refine HC.out.1.mono ?_
      rintro e w1 ⟨rfl, M', hp1, hp2, hp3, hp4⟩
      have hlM : M'.length = 20 := by rw [hp2.len]; exact HC.out.2.1
      have eN : (Cs.flatten ++ (M' ++ (P.drop a).drop 20)).length = N := by
        have h1 := HC.out.2.2.2.2
        rw [← HC.out.2.2.1] at h1
        rw [← h1]
        simp only [List.length_append, hlM, HC.out.2.1]
      rw [eN] at hp3
      have H := Lib.hid (And.intro hp1 (And.intro hp2 (And.intro hp3 (And.intro (keep_on hK.out hp4) hlM))))
      clear hp1 hp2 hp3 hp4 hlM eN
      go_wp2_with (fail)
      go_roundg (N - b)
      case measure => have := hab.out; have := HC.out.2.2.2.1; omega
      case rel =>
        obtain ⟨hp1, hp2, hp3, hp4, hlM⟩ := H.out
        have e2 : (Cs ++ [M']).flatten ++ P.drop b = Cs.flatten ++ (M' ++ (P.drop a).drop 20) := by
          rw [flat_snoc, List.append_assoc, List.drop_drop, hab.out.2.1]
        refine ⟨b, b + 20, Cs ++ [M'], rfl, by go_num, ?_, hF.out.snoc hlM hp1, ?_, ?_, hp4⟩
        · show _ ∧ _ ∧ _
          have := hab.out; have := HC.out.2.2.2.1
          rw [flat_snoc, List.length_append, hlM]
          exact ⟨by omega, rfl, by omega⟩
        · show StS _ _ _
          rw [e2]
          refine sts_mid hp2 ?_
          rw [HC.out.2.2.1]; exact hst.out
        · show Sl _ _ _ _ _
          rw [e2]; exact hp3
    · have hltI : ¬ (b : Int) ≤ (N : Int) := by omega
      have h1 := insSort_any g c a N Cs.flatten (P.drop a) [] wr (by rw [List.append_nil, hNa]; exact hRow.out) (by rw [List.append_nil]; exact hPl) (by rw [List.append_nil, hNa]; omega) hab.out.2.2 (by have := hab.out; have := HS.out.2.2.1; rw [List.length_drop]; omega)
      rw [List.append_nil, hNa] at h1
      have HC := Lib.hid (And.intro h1 (And.intro hlt hNa))
      clear h1 hPl hlt hNa
      go_wp2_with (fail)
      refine HC.out.1.mono ?_
      rintro e w1 ⟨rfl, M', hp1, hp2, hp3, hp4⟩
      have hlM := hp2.len
      have eN : (Cs.flatten ++ (M' ++ [])).length = N := by
        have h1 := HC.out.2.2
        rw [← h1, List.append_nil]
        simp only [List.length_append, hlM]
      rw [eN] at hp3
      rw [List.append_nil] at hp3
      have hstM : StS Pl.L (Cs.flatten ++ M') P := by
        have h2 := sts_mid (X := Cs.flatten) (Y := []) (P := P) hp2 (by rw [List.append_nil]; exact hst.out)
        rwa [List.append_nil] at h2
      have hlM20 : M'.length ≤ 20 := by rw [hlM, List.length_drop]; have := hab.out; have := HC.out.2.1; have := HS.out.2.2.1; omega
      have H := Lib.hid (And.intro hp1 (And.intro hstM (And.intro hp3 (And.intro (keep_on hK.out hp4) (And.intro hlM20 hF.out)))))
      clear hp1 hp2 hp3 hp4 hlM eN hstM hlM20 hK hRow hst hab hF
      go_wp2_with (fail)
      go_loopg [6, 7, 8, 9] (N - 20) (fun gg v6 _ _ _ wr => ∃ (bs : Nat) (Fs : List (List Pl)) (L : List Pl), v6 = .int .i64 (bs : Int) ∧ Aside (gg = N - bs ∧ 1 ≤ bs ∧ bs ≤ 2000) ∧ Aside (Full bs Fs ∧ L.length ≤ bs ∧ SrtK Pl.L cmpL L) ∧ Aside (StS Pl.L (Fs.flatten ++ L) P) ∧ Aside (Sl wr 2 (.slice (some ⟨g, 0, none⟩) N c) N (plC (Fs.flatten ++ L))) ∧ Aside (KeepK (fun i => i < w.heap.size ∧ i ≠ g) w wr))
      case atStart => exact ⟨20, Cs, M', rfl, (by show _ ∧ _ ∧ _; exact ⟨rfl, by omega, by omega⟩), ⟨H.out.2.2.2.2.2, H.out.2.2.2.2.1, H.out.1⟩, H.out.2.1, H.out.2.2.1, H.out.2.2.2.1⟩
      case round =>
        obtain ⟨bs, Fs, L, rfl, hbs, hF, hst, hRow, hK⟩ := hrel
        have hbI : (bs : Int) ≤ 2000 := by have := hbs.out; omega
        have hlen : (Fs.flatten ++ L).length = N := by rw [hst.out.len]; exact HS.out.2.2.1
        by_cases hlt : bs < N
        · have hltI : (bs : Int) < (N : Int) := by omega
          have HL := Lib.hid (And.intro hlen hlt)
          clear hlen hlt
          go_wp2_with (fail)
          go_loopg [7, 8] (N - 0) (fun gg v7 v8 wr => ∃ (a b : Nat) (Ds Es : List (List Pl)) (L : List Pl), v7 = .int .i64 (a : Int) ∧ v8 = .int .i64 (b : Int) ∧ Aside (gg = N - a ∧ b = a + 2 * bs ∧ a = Ds.flatten.length ∧ a ≤ N) ∧ Aside (Full (2 * bs) Ds ∧ Full bs Es ∧ L.length ≤ bs ∧ SrtK Pl.L cmpL L) ∧ Aside (StS Pl.L (Ds.flatten ++ (Es.flatten ++ L)) P) ∧ Aside (Sl wr 2 (.slice (some ⟨g, 0, none⟩) N c) N (plC (Ds.flatten ++ (Es.flatten ++ L)))) ∧ Aside (KeepK (fun i => i < w.heap.size ∧ i ≠ g) w wr))
          case atStart => exact ⟨0, 2 * bs, [], Fs, L, rfl, by go_num, ⟨rfl, by omega, rfl, Nat.zero_le _⟩, ⟨fun C hC => absurd hC List.not_mem_nil, hF.out⟩, hst.out, hRow.out, hK.out⟩
          case round =>
            clear hF hst hRow hK
            obtain ⟨a, b, Ds, Es, L2, rfl, rfl, hab, hF, hst, hRow, hK⟩ := hrel
            have hPl : PlOk wr g (Ds.flatten ++ (Es.flatten ++ L2)) := HS.out.2.1.sts hst.out hK.out
            have haI : (a : Int) ≤ 1000 := by have := hab.out; omega
            have hbI2 : (b : Int) ≤ 5000 := by have := hab.out; have := hbs.out; omega
            have hlen : (Ds.flatten ++ (Es.flatten ++ L2)).length = N := by rw [hst.out.len]; exact HS.out.2.2.1
            have hlen2 : a + (Es.flatten ++ L2).length = N := by rw [List.length_append, ← hab.out.2.2.1] at hlen; exact hlen
            by_cases hle : b ≤ N
            · have hleI : (b : Int) ≤ (N : Int) := by omega
              obtain ⟨A1, A2, Es', L', eA, l1, l2, s1, s2, hF', l3, s3⟩ := pair_next hF.out.2.1 hF.out.2.2.1 hF.out.2.2.2 hbs.out.2.1 (by have := hab.out; omega)
              rw [eA] at hlen hPl
              have hRow' := hRow.out
              rw [eA] at hRow'
              have hst' := hst.out
              rw [eA] at hst'
              have h1 := sym_go g c N a (a + bs) b Ds.flatten A1 A2 (Es'.flatten ++ L') wr (by have := HS.out.2.2.2; omega) hRow' (hPl.mem fun q hq => List.mem_append_right _ (List.mem_append_left _ hq)) hlen hab.out.2.2.1 (by omega) (by have := hab.out; omega) (by have := hbs.out; omega) (by have := hbs.out; omega) s1 s2
              rw [Int.natCast_add] at h1
              have HC := Lib.hid (And.intro h1 (And.intro l1 (And.intro l2 (And.intro hF' (And.intro l3 (And.intro s3 (And.intro hst' hle)))))))
              clear h1 hst' hRow' hPl hlen hlen2 eA l1 l2 s1 s2 hF' l3 s3 hle
              go_wp2_with (fail)
              refine HC.out.1.mono ?_
              rintro e w2 ⟨rfl, M2, hp1, hp2, hp3, hp4⟩
              have H2 := Lib.hid (And.intro hp1 (And.intro hp2 (And.intro hp3 (keep_on hK.out hp4))))
              clear hp1 hp2 hp3 hp4
              go_wp2_with (fail)
              go_roundg (N - b)
              case measure => have := hab.out; have := HC.out.2.2.2.2.2.2.2; have := hbs.out; omega
              case rel =>
                obtain ⟨hp1, hp2, hp3, hp4⟩ := H2.out
                obtain ⟨_, l1, l2, hF', l3, s3, hst', hle⟩ := HC.out
                have hlM : M2.length = 2 * bs := by rw [hp2.len, List.length_append]; omega
                have e2 : (Ds ++ [M2]).flatten ++ (Es'.flatten ++ L') = Ds.flatten ++ (M2 ++ (Es'.flatten ++ L')) := by rw [flat_snoc, List.append_assoc]
                refine ⟨b, b + 2 * bs, Ds ++ [M2], Es', L', rfl, by go_num, ?_, ⟨hF.out.1.snoc hlM hp1, hF', l3, s3⟩, ?_, ?_, hp4⟩
                · show _ ∧ _ ∧ _ ∧ _
                  have := hab.out
                  rw [flat_snoc, List.length_append, hlM]
                  exact ⟨rfl, rfl, by omega, hle⟩
                · show StS _ _ _
                  rw [e2]; exact sts_mid hp2 hst'
                · show Sl _ _ _ _ _
                  rw [e2]; exact hp3
            · have hleI : ¬ (b : Int) ≤ (N : Int) := by omega
              by_cases hlm : a + bs < N
              · have hlmI : (a : Int) + (bs : Int) < (N : Int) := by omega
                obtain ⟨F, rfl, l1, s1, l2⟩ := pair_last hF.out.2.1 hF.out.2.2.1 (by omega) (by have := hab.out; omega)
                have e1 : ([F] : List (List Pl)).flatten ++ L2 = (F ++ L2) ++ [] := by simp
                rw [e1] at hlen hPl hlen2
                have hRow' := hRow.out
                rw [e1] at hRow'
                have hst' := hst.out
                rw [e1] at hst'
                have h1 := sym_go g c N a (a + bs) N Ds.flatten F L2 [] wr (by have := HS.out.2.2.2; omega) hRow' (hPl.mem fun q hq => List.mem_append_right _ (List.mem_append_left _ hq)) hlen hab.out.2.2.1 (by omega) (by simp at hlen2; omega) (by have := hbs.out; omega) l2 s1 hF.out.2.2.2
                rw [Int.natCast_add] at h1
                have HC := Lib.hid (And.intro h1 (And.intro l1 hst'))
                clear h1 hst' hRow' hPl hlen hlen2 e1 l1 l2 s1 hle hlm
                go_wp2_with (fail)
                refine HC.out.1.mono ?_
                rintro e w2 ⟨rfl, M2, hp1, hp2, hp3, hp4⟩
                have H2 := Lib.hid (And.intro hp1 (And.intro hp2 (And.intro hp3 (keep_on hK.out hp4))))
                clear hp1 hp2 hp3 hp4
                go_wp2_with (fail)
                go_roundg (N - 2 * bs)
                case measure => have := hbs.out; have := HL.out; omega
                case rel =>
                  obtain ⟨hp1, hp2, hp3, hp4⟩ := H2.out
                  obtain ⟨_, l1, hst'⟩ := HC.out
                  refine ⟨2 * bs, Ds, M2, by congr 1; omega, (by show _ ∧ _ ∧ _; have := hbs.out; have := HL.out; have := HS.out.2.2.2; exact ⟨rfl, by omega, by omega⟩), ⟨hF.out.1, ?_, hp1⟩, ?_, ?_, hp4⟩
                  · rw [hp2.len, List.length_append]; have := hF.out.2.2.1; omega
                  · have h := sts_mid hp2 hst'
                    rw [List.append_nil] at h
                    exact h
                  · rw [List.append_nil] at hp3; exact hp3
              · have hlmI : ¬ (a : Int) + (bs : Int) < (N : Int) := by omega
                have hs := small_srt hF.out.2.1 hF.out.2.2.2 hbs.out.2.1 (by omega)
                have HC := Lib.hid (And.intro hs (show (Es.flatten ++ L2).length ≤ 2 * bs by omega))
                clear hs hPl hlen hlen2 hle hlm
                go_wp2_with (fail)
                go_roundg (N - 2 * bs)
                case measure => have := hbs.out; have := HL.out; omega
                case rel =>
                  refine ⟨2 * bs, Ds, Es.flatten ++ L2, by congr 1; omega, (by show _ ∧ _ ∧ _; have := hbs.out; have := HL.out; have := HS.out.2.2.2; exact ⟨rfl, by omega, by omega⟩), ⟨hF.out.1, HC.out.2, HC.out.1⟩, hst.out, hRow.out, hK.out⟩
        · have hltI : ¬ (bs : Int) < (N : Int) := by omega
          have hs := small_srt hF.out.1 hF.out.2.2 hbs.out.2.1 (by omega)
          have HC := Lib.hid hs
          clear hs hlen hlt
          go_wp2_with (fail)
          refine bodyPost_end (results_none rfl _ _ _) rfl ?_
          exact ⟨rfl, Fs.flatten ++ L, HC.out, hst.out, hRow.out, hK.out⟩
end Go.Proofs.Ytjhhhkhcnohmiaa
