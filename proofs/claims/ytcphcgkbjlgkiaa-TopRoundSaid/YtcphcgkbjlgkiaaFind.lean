/- The walk of the reference find over a table of sums. -/
import Derived.Test.YtcphcgkbjlgkiaaTab
namespace Go.Proofs.Ytcphcgkbjlgkiaa
open Go.RowKit Go.Lib

/-- The first entry's number; 0: there is none. -/
def findN (p : Entry → Bool) (xs : List Entry) : Int := match xs.find? p with | some e => e.n | none => 0
theorem any_hit {p : Entry → Bool} {xs : List Entry} {k : Nat} {e : Entry} (hk : xs[k]? = some e) (he : p e = true) : xs.any p = true :=
  List.any_eq_true.2 ⟨e, List.mem_of_getElem? hk, he⟩
theorem any_miss {p : Entry → Bool} {xs : List Entry} (hn : ∀ j f, j < xs.length → xs[j]? = some f → p f = false) : xs.any p = false := by
  rw [List.any_eq_false]
  intro x hx
  obtain ⟨j, hj, rfl⟩ := List.getElem_of_mem hx
  rw [hn j _ hj (List.getElem?_eq_getElem hj)]; simp
theorem findN_hit {p : Entry → Bool} {xs : List Entry} {k : Nat} {e : Entry} (hk : xs[k]? = some e) (he : p e = true) (hn : ∀ j f, j < k → xs[j]? = some f → p f = false) : findN p xs = e.n := by
  have : xs.find? p = some e := by
    obtain ⟨hlt, hx⟩ := List.getElem?_eq_some_iff.1 hk
    rw [List.find?_eq_some_iff_getElem]
    refine ⟨he, k, hlt, hx, fun j hj => ?_⟩
    rw [hn j _ hj (List.getElem?_eq_getElem (by omega))]; rfl
  unfold findN; rw [this]
theorem findN_miss {p : Entry → Bool} {xs : List Entry} (hn : ∀ j f, j < xs.length → xs[j]? = some f → p f = false) : findN p xs = 0 := by
  have : xs.find? p = none := by
    rw [List.find?_eq_none]
    intro x hx
    obtain ⟨j, hj, rfl⟩ := List.getElem_of_mem hx
    rw [hn j _ hj (List.getElem?_eq_getElem hj)]; simp
  unfold findN; rw [this]
theorem ret_fb {x y : Int} {a b : Bool} (h : x = y) (h2 : a = b) : Ending.returned (.tuple #[.int .u64 x, .bool a]) = .returned (.tuple #[.int .u64 y, .bool b]) := by rw [h, h2]

set_option maxHeartbeats 1000000 in
theorem find_any (i : Bool) (xs : List Entry) (A : Option Addr) (c : Nat) (key text : ByteArray) (w : World) (hT : Tab w A xs) (hbig : xs.length ≤ 9223372036854775807) :
    Calls Try.prog 87 #[.agg #[.bool i, .slice A xs.length c], .string key, .string text] w fun e w' =>
      e = .returned (.tuple #[.int .u64 (findN (Entry.is key text) xs), .bool (xs.any (Entry.is key text))]) ∧ Below w.heap.size w w' := by
  have HT := Lib.hid hT
  clear hT
  go_enter Try.func87, Try.ntmps87
  go_wp2
  go_loopg [13] xs.length (fun gg s8 wr => ∃ kk : Nat, kk ≤ xs.length ∧ xs.length - kk ≤ gg ∧ s8 = .int .i64 kk ∧ Aside (Below w.heap.size w wr) ∧ Aside (∀ j f, j < kk → xs[j]? = some f → Entry.is key text f = false))
  case atStart => exact ⟨0, Nat.zero_le _, by omega, rfl, (Below.refl _ w).alloc (Nat.le_refl _) _, fun j _ hj => absurd hj (Nat.not_lt_zero _)⟩
  case round =>
    obtain ⟨kk, hkk, hg, rfl, BW, AA⟩ := hrel
    by_cases hlt : kk < xs.length
    · have hltz : (kk : Int) < (xs.length : Int) := by omega
      have HTr := HT.out.below BW.out
      obtain ⟨b, off, rfl, hbs, hc⟩ := HTr.2 (by omega)
      obtain ⟨e, he⟩ : ∃ e, xs[kk]? = some e := ⟨_, List.getElem?_eq_getElem hlt⟩
      have c0 : wr.cell? ⟨b, off + kk * 3, none⟩ = some (.string e.key) := hc kk e he 0 _ rfl
      have c1 : wr.cell? ⟨b, off + kk * 3 + 1, none⟩ = some (.string e.text) := hc kk e he 1 _ rfl
      have c2 : wr.cell? ⟨b, off + kk * 3 + 2, none⟩ = some (.int .u64 e.n) := hc kk e he 2 _ rfl
      have HE := Lib.hid he
      have HB1 : Aside (Below w.heap.size w (wr.alloc (.cells #[.string e.key, .string e.text, .int .u64 e.n] 88))) := BW.out.alloc BW.out.size _
      clear hc HTr he
      cases hq : Entry.is key text e with
      | true =>
        have hq2 := hq
        unfold Entry.is at hq2
        rw [Bool.and_eq_true, beq_iff_eq, beq_iff_eq] at hq2
        obtain ⟨q1, q2⟩ := hq2
        have HQ := Lib.hid hq
        clear hq
        go_wp2
        go_ret2
        refine ⟨?_, HB1.out⟩
        exact ret_fb (findN_hit HE.out HQ.out AA.out).symm (any_hit HE.out HQ.out).symm
      | false =>
        have HQ := Lib.hid hq
        clear hq
        go_wp2
        all_goals first
          | (exfalso; have h2 := HQ.out; unfold Entry.is at h2; simp_all; done)
          | (go_roundg (xs.length - (kk + 1))
             case measure => omega
             case rel =>
               refine ⟨kk + 1, by omega, by omega, by go_num, HB1, (show Aside _ from fun j f hj hf => ?_)⟩
               by_cases h : j = kk
               · subst h
                 rw [HE.out] at hf
                 cases hf
                 exact HQ.out
               · exact AA.out j f (by omega) hf)
    · obtain rfl : kk = xs.length := by omega
      clear hlt
      go_wp2
      go_ret2
      refine ⟨?_, BW.out⟩
      exact ret_fb (findN_miss AA.out).symm (any_miss AA.out).symm
end Go.Proofs.Ytcphcgkbjlgkiaa
