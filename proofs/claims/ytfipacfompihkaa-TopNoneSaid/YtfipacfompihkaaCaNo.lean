/- The walk of the cache's None at a name. Conditions: none. -/
import Derived.Test.YtfipacfompihkaaCaP
namespace Go.Proofs.Ytfipacfompihkaa
open Go.RowKit Go.Lib

def noTh (n : ByteArray) (t ttl : Int) (all : Bool) : En := ⟨n, t, ttl, [], 4, true, all, 0⟩
def NoneP (w : World) (g mb room m : Nat) (L : Nat → Prop) (V : Bs → Int → Option En) (n : ByteArray) (t ttl now : Int) (all : Bool) (e : Ending) (w' : World) : Prop :=
  ((t = 0 ∧ all = false) ∧ e = .returned (.bool false) ∧ CaV w' g mb room m L V ∧ KeepK (fun i => i < w.heap.size ∧ ¬ L i ∧ i ≠ mb) w w') ∨
    (¬ (t = 0 ∧ all = false) ∧ HoldP w g mb room m L V (noTh n (if all = true then 0 else t) ttl all) (min ttl 10800) now e w')
set_option maxRecDepth 100000 in
set_option maxHeartbeats 4000000 in
theorem none_any {w : World} {g mb room m : Nat} {L : Nat → Prop} {V : Bs → Int → Option En} (hC : CaV w g mb room m L V) (hm : m < room) (hr : room ≤ 4096) (n : ByteArray) (t ttl now : Int) (all : Bool)
    (hn : n.size ≤ maxLen) (hnm : isName n.data.toList = true) (ht : 0 ≤ t ∧ t ≤ 65535) (hl : 0 ≤ ttl ∧ ttl ≤ 4294967295) (hnow : -9223372036854775808 ≤ now ∧ now ≤ 9223372036854775807) :
    Calls Try.prog 20 #[.pointer (some ⟨g, 0, none⟩), .string n, .int .u16 t, .bool all, .int .u32 ttl, .int .i64 now] w (NoneP w g mb room m L V n t ttl now all) := by
  have HK := Lib.hid (fun W => Check_any n hn W)
  rw [show chkN n.data.toList = 0 from by unfold chkN; rw [if_pos hnm]] at HK
  have HH := Lib.hid (fun W (hW : Below w.heap.size w W) => hold_any (hC.low hW) hm hr ⟨n, if all = true then 0 else t, ttl, none, [], 0, 4, true, all, 0⟩ STab.nil_ (fun a ha => by cases ha) (by simp) hn (by dsimp only; split <;> omega) hl (min ttl 10800) now (by omega) hnow)
  have HC := Lib.hid (And.intro hC hl)
  clear hC hm hr hn hnm ht hl hnow
  dsimp only [Th.found] at HH
  obtain ⟨ml, hml⟩ : ∃ ml, min ttl 10800 = ml := ⟨_, rfl⟩
  have HNP : RowKit.Hid (∀ e w', NoneP w g mb room m L V n t ttl now all e w' ↔ ((t = 0 ∧ all = false) ∧ e = .returned (.bool false) ∧ CaV w' g mb room m L V ∧ KeepK (fun i => i < w.heap.size ∧ ¬ L i ∧ i ≠ mb) w w') ∨ (¬ (t = 0 ∧ all = false) ∧ HoldP w g mb room m L V (noTh n (if all = true then 0 else t) ttl all) ml now e w')) := Lib.hid (fun e w' => by unfold NoneP; rw [hml])
  rw [hml] at HH
  have HML := Lib.hid hml
  clear hml
  by_cases h0 : t = 0
  · subst h0
    cases all with
    | true =>
      rw [if_pos rfl] at HH
      go_enter Try.func20, Try.ntmps20
      go_wp2_with (fail)
      with_reducible refine (HK.out _).mono ?_
      rintro e w2 ⟨rfl, hb⟩
      have B3 := Lib.hid (hb.alloc hb.size (.cells #[.string n, .int .u16 0, .int .u32 ttl, .slice none 0 0, .int .u8 4, .bool true, .bool true] 62))
      have HH3 := Lib.hid (HH.out _ B3.out)
      rw [show ([] : List ByteArray).length = 0 from rfl, ← HML.out] at HH3
      clear hb
      go_wp2_with (fail)
      refine HH3.out.mono ?_
      rintro e w4 hp
      obtain ⟨z, hz⟩ : ∃ z, holds V (noTh n 0 ttl true) (min ttl 10800) now = z := ⟨_, rfl⟩
      have he : e = .returned (.bool z) := by rw [← hz]; exact hp.1
      subst he
      have HPO := Lib.hid hp
      clear hp hz HH3
      go_wp2_with (fail)
      go_ret
      exact (HNP.out _ _).2 (.inr ⟨(fun h => nomatch h.2), by rw [HML.out] at HPO; exact HPO.out.later B3.out⟩)

    | false =>
      go_enter Try.func20, Try.ntmps20
      go_wp2_with (fail)
      with_reducible refine (HK.out _).mono ?_
      rintro e w2 ⟨rfl, hb⟩
      have B2 := Lib.hid hb
      clear hb
      go_wp2_with (fail)
      go_ret
      exact (HNP.out _ _).2 (.inl ⟨by simp, rfl, HC.out.1.low B2.out, KeepK.of_below B2.out fun i hi => hi.1⟩)
  · have e0 : (t == 0) = false := by simp [h0]
    have H0 := Lib.hid h0
    clear h0
    cases all with
    | true =>
      rw [if_pos rfl] at HH
      go_enter Try.func20, Try.ntmps20
      go_wp2_with (fail)
      with_reducible refine (HK.out _).mono ?_
      rintro e w2 ⟨rfl, hb⟩
      have B3 := Lib.hid (hb.alloc hb.size (.cells #[.string n, .int .u16 0, .int .u32 ttl, .slice none 0 0, .int .u8 4, .bool true, .bool true] 62))
      have HH3 := Lib.hid (HH.out _ B3.out)
      rw [show ([] : List ByteArray).length = 0 from rfl, ← HML.out] at HH3
      clear hb
      go_wp2_with (fail)
      refine HH3.out.mono ?_
      rintro e w4 hp
      obtain ⟨z, hz⟩ : ∃ z, holds V (noTh n 0 ttl true) (min ttl 10800) now = z := ⟨_, rfl⟩
      have he : e = .returned (.bool z) := by rw [← hz]; exact hp.1
      subst he
      have HPO := Lib.hid hp
      clear hp hz HH3
      go_wp2_with (fail)
      go_ret
      exact (HNP.out _ _).2 (.inr ⟨(fun h => nomatch h.2), by rw [HML.out] at HPO; exact HPO.out.later B3.out⟩)

    | false =>
      rw [if_neg (by decide)] at HH
      go_enter Try.func20, Try.ntmps20
      go_wp2_with (fail)
      with_reducible refine (HK.out _).mono ?_
      rintro e w2 ⟨rfl, hb⟩
      have B3 := Lib.hid (hb.alloc hb.size (.cells #[.string n, .int .u16 t, .int .u32 ttl, .slice none 0 0, .int .u8 4, .bool true, .bool false] 62))
      have HH3 := Lib.hid (HH.out _ B3.out)
      rw [show ([] : List ByteArray).length = 0 from rfl, ← HML.out] at HH3
      clear hb
      go_wp2_with (fail)
      refine HH3.out.mono ?_
      rintro e w4 hp
      obtain ⟨z, hz⟩ : ∃ z, holds V (noTh n t ttl false) (min ttl 10800) now = z := ⟨_, rfl⟩
      have he : e = .returned (.bool z) := by rw [← hz]; exact hp.1
      subst he
      have HPO := Lib.hid hp
      clear hp hz HH3
      go_wp2_with (fail)
      go_ret
      exact (HNP.out _ _).2 (.inr ⟨(fun h => H0.out h.1), by rw [HML.out] at HPO; exact HPO.out.later B3.out⟩)

end Go.Proofs.Ytfipacfompihkaa
