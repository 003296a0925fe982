/- The walk of hardtacktop.known. Conditions: none. -/
import Derived.Test.YtfipacfompihkaaPeOf
import Derived.Test.YtfipacfompihkaaPeOrd
import Derived.Test.YtfipacfompihkaaInts
namespace Go.Proofs.Ytfipacfompihkaa
open Go.RowKit Go.Lib

/-- What is known of the first k. -/
def knownL (ofP : Int → Pe) (xs : List Nat) : List Pe := xs.map fun x : Nat => ofP (x : Int)
structure KI (w wr : World) (L : List Pe) (A' : Option Addr) (c' : Nat) : Prop where
  s : PeS wr A' c' L
  o : ∀ g, (Value.slice A' L.length c').ownBlock = some g → w.heap.size ≤ g
  b : Below w.heap.size w wr
set_option maxRecDepth 100000 in
set_option maxHeartbeats 4000000 in
theorem known_any {w : World} (g : Nat) (xs : List Nat) (A : Option Addr) (c : Nat) (hU : U32s w A xs) (hn : xs.length ≤ 40) (ofP : Int → Pe)
    (hO : ∀ W, Below w.heap.size w W → ∀ b : Int, 0 ≤ b ∧ b ≤ 4294967295 → Calls Try.prog 12 #[.pointer (some ⟨g, 0, none⟩), .int .u32 b] W fun e w' => e = .returned (ofP b).val ∧ Below W.heap.size W w') :
    Calls Try.prog 11 #[.pointer (some ⟨g, 0, none⟩), .slice A xs.length c] w fun e w' => ∃ A' c', e = .returned (.slice A' (knownL ofP xs).length c') ∧ KI w w' (knownL ofP xs) A' c' := by
  obtain ⟨i0, hi0, hz0, hz1, hz2⟩ := info_parts info_pe
  have HU := Lib.hid (And.intro hU hn)
  have HO := Lib.hid hO
  have hnI : (xs.length : Int) ≤ 40 := by omega
  clear hU hn hO
  go_enter Try.func11, Try.ntmps11
  go_wp2_with (fail)
  go_loopg [5, 10] xs.length (fun gg v5 v10 wr => ∃ (k : Nat) (A' : Option Addr) (c' : Nat) (L : List Pe), v10 = .int .i64 (k : Int) ∧ v5 = .slice A' L.length c' ∧ Aside (gg + k = xs.length) ∧ Aside (L = knownL ofP (xs.take k)) ∧ Aside (KI w wr L A' c'))
  case atStart => exact ⟨0, none, 0, [], rfl, rfl, rfl, rfl, ⟨Sl.nil _ _, fun g hg => by simp [Value.ownBlock] at hg, Below.refl _ _⟩⟩
  case round =>
    obtain ⟨k, A', c', L, rfl, rfl, hg, hL, hI⟩ := hrel
    by_cases hlt : k < xs.length
    · have hltI : (k : Int) < (xs.length : Int) := by omega
      obtain ⟨x, hx⟩ : ∃ x, xs[k]? = some x := ⟨_, List.getElem?_eq_getElem hlt⟩
      obtain ⟨b, off, rfl, hbl, hc⟩ := (HU.out.1.below hI.out.b).2 (by omega)
      have x0 := hc k x hx
      have hxr := HU.out.1.1 x (List.mem_of_getElem? hx)
      have HX := Lib.hid (And.intro hx hxr)
      have hLl : L.length ≤ 40 := by rw [hL.out]; unfold knownL; rw [List.length_map, List.length_take]; have := HU.out.2; omega
      have HC := Lib.hid (HO.out wr hI.out.b (x : Int) ⟨by omega, by omega⟩)
      obtain ⟨y, hy⟩ : ∃ y, ofP (x : Int) = y := ⟨_, rfl⟩
      rw [hy] at HC
      unfold Pe.val at HC
      have HY := Lib.hid hy
      clear hx hc hbl hlt hxr hy
      go_wp2_with (fail)
      with_reducible refine HC.out.mono ?_
      rintro e w2 ⟨rfl, hb⟩
      have HI2 := Lib.hid (show KI w (w2.alloc (.cells #[.int .u32 y.a, .string ⟨#[]⟩, .bool false, .int .i64 y.f, .int .i64 y.r] 35)) L A' c' from by
        have b2 : Below wr.heap.size wr (w2.alloc (.cells #[.int .u32 y.a, .string ⟨#[]⟩, .bool false, .int .i64 y.f, .int .i64 y.r] 35)) := hb.alloc hb.size _
        exact ⟨hI.out.s.below b2, hI.out.o, hI.out.b.trans (b2.mono hI.out.b.size)⟩)
      have HSR := Lib.hid (src_pe w2 y)
      clear hb HC
      go_wp2_with (at_builtin; go_must (refine wpList_append_sl _ rfl (.tmp 14) (.tmp 18) 31 31 rfl 35 i0 (.agg #[.int .u32 0, .string ⟨#[]⟩, .bool false, .int .i64 0, .int .i64 0]) 5 48 Try.underlying31 hi0 hz0 hz1 hz2 rfl (.slice A' L.length c') L.length (flatV Pe.vs L) rfl HI2.out.s _ rfl 1 (flatV Pe.vs [y]) HSR.out (by unfold maxLen; omega) (by omega) ?_); intro v3 w9 hs3 hg3 hv3; obtain ⟨A3, c3, rfl, hc3, hm3⟩ := hs3.shape; have H3 := Lib.hid (And.intro hs3 (And.intro hg3 hv3)); clear hs3 hg3 hv3 hc3 hm3)
      go_roundg (xs.length - (k + 1))
      case measure => have := hg.out; have := hltI; omega
      case rel =>
        obtain ⟨hs3, hg3, hv3⟩ := H3.out
        have hl : (L ++ [y]).length = L.length + 1 := by simp
        refine ⟨k + 1, A3, c3, L ++ [y], by go_num, by rw [hl], (show xs.length - (k + 1) + (k + 1) = xs.length by have := hltI; omega), ?_, ⟨?_, fun q hq => ?_, HI2.out.b.grown hg3 HI2.out.b.size fun q hq => HI2.out.o q hq⟩⟩
        · show L ++ [y] = _
          rw [List.take_add_one, HX.out.1]
          unfold knownL
          rw [List.map_append, hL.out]
          simp [knownL, HY.out]
        · unfold PeS
          rw [hl, flatV_append]
          exact hs3
        · rw [hl] at hq
          rcases hv3 with e | e
          · rw [e] at hq; exact HI2.out.o q hq
          · rw [e] at hq; injection hq with hq; have := HI2.out.b.size; omega
    · have hltI : ¬ (k : Int) < (xs.length : Int) := by omega
      have hk : L = knownL ofP xs := by have := hL.out; rwa [List.take_of_length_le (by omega)] at this
      subst hk
      clear hlt
      go_wp2_with (fail)
      go_ret
      exact ⟨A', c', rfl, hI.out⟩
end Go.Proofs.Ytfipacfompihkaa
