/- The law KeyedTells, walked. -/
import Derived.Test.YtcphcgkbjlgkiaaKeyedLives
import Derived.Deep.RegionHeld3
namespace Go.Proofs.Ytcphcgkbjlgkiaa
open Go.RowKit Go.Lib

theorem chk_v (xs : List Entry) : ∃ v, ChkIs xs v := by
  rcases Classical.em (xs.length ≤ 4096 ∧ SndTo xs xs.length) with h | h
  · exact ⟨0, .inl ⟨rfl, h⟩⟩
  · exact ⟨2, .inr ⟨rfl, h⟩⟩
theorem ap_v (xs : List Entry) : ∃ v, ApIs xs v := by
  rcases Classical.em (Ap xs) with h | h
  · exact ⟨true, .inl ⟨rfl, h⟩⟩
  · exact ⟨false, .inr ⟨rfl, h⟩⟩

theorem check_is {xs : List Entry} {v : Int} (hv : ChkIs xs v) (i : Bool) (A : Option Addr) (c : Nat) (W : World) (h : Tab W A xs) (hbig : xs.length ≤ 9223372036854775807) :
    Calls Try.prog 19 #[.agg #[.bool i, .slice A xs.length c]] W fun e w' => e = .returned (.int .i64 v) ∧ Below W.heap.size W w' :=
  (check_any i xs A c W h hbig).mono fun _ _ ⟨v', hv', he, hb⟩ => ⟨by rw [he, hv'.eq hv], hb⟩
theorem apart_is {xs : List Entry} {v : Bool} (hv : ApIs xs v) (i : Bool) (A : Option Addr) (c : Nat) (W : World) (h : Tab W A xs) (hbig : xs.length ≤ 9223372036854775807) :
    Calls Try.prog 30 #[.agg #[.bool i, .slice A xs.length c]] W fun e w' => e = .returned (.bool v) ∧ Below W.heap.size W w' :=
  (apart_any i xs A c W h hbig).mono fun _ _ ⟨v', hv', he, hb⟩ => ⟨by rw [he, hv'.eq hv], hb⟩
theorem keepD {V W : World} {a b c : Nat} {x0 x1 y0 y1 z0 z1 : Option Value}
    (H : W.cell? ⟨a, 0, none⟩ = x0 ∧ W.cell? ⟨a, 1, none⟩ = x1 ∧ W.cell? ⟨b, 0, none⟩ = y0 ∧ W.cell? ⟨b, 1, none⟩ = y1 ∧ W.cell? ⟨c, 0, none⟩ = z0 ∧ W.cell? ⟨c, 1, none⟩ = z1 ∧ V.heap.size ≤ W.heap.size ∧ Below V.heap.size V W) :
    W.drew.cell? ⟨a, 0, none⟩ = x0 ∧ W.drew.cell? ⟨a, 1, none⟩ = x1 ∧ W.drew.cell? ⟨b, 0, none⟩ = y0 ∧ W.drew.cell? ⟨b, 1, none⟩ = y1 ∧ W.drew.cell? ⟨c, 0, none⟩ = z0 ∧ W.drew.cell? ⟨c, 1, none⟩ = z1 ∧ V.heap.size ≤ W.drew.heap.size ∧ Below V.heap.size V W.drew :=
  ⟨H.1, H.2.1, H.2.2.1, H.2.2.2.1, H.2.2.2.2.1, H.2.2.2.2.2.1, H.2.2.2.2.2.2.1, H.2.2.2.2.2.2.2.drew⟩
theorem keepC {V W w' : World} {a b c : Nat} {x0 x1 y0 y1 z0 z1 : Option Value} (ha : a < V.heap.size) (hb : b < V.heap.size) (hc : c < V.heap.size)
    (H : W.cell? ⟨a, 0, none⟩ = x0 ∧ W.cell? ⟨a, 1, none⟩ = x1 ∧ W.cell? ⟨b, 0, none⟩ = y0 ∧ W.cell? ⟨b, 1, none⟩ = y1 ∧ W.cell? ⟨c, 0, none⟩ = z0 ∧ W.cell? ⟨c, 1, none⟩ = z1 ∧ V.heap.size ≤ W.heap.size ∧ Below V.heap.size V W) (hw : Below W.heap.size W w') :
    w'.cell? ⟨a, 0, none⟩ = x0 ∧ w'.cell? ⟨a, 1, none⟩ = x1 ∧ w'.cell? ⟨b, 0, none⟩ = y0 ∧ w'.cell? ⟨b, 1, none⟩ = y1 ∧ w'.cell? ⟨c, 0, none⟩ = z0 ∧ w'.cell? ⟨c, 1, none⟩ = z1 ∧ V.heap.size ≤ w'.heap.size ∧ Below V.heap.size V w' := by
  obtain ⟨h0, h1, h2, h3, h4, h5, h6, h7⟩ := H
  have ha' : a < W.heap.size := by omega
  have hb' : b < W.heap.size := by omega
  have hc' : c < W.heap.size := by omega
  exact ⟨(hw.cell (p := ⟨a, 0, none⟩) ha').trans h0, (hw.cell (p := ⟨a, 1, none⟩) ha').trans h1, (hw.cell (p := ⟨b, 0, none⟩) hb').trans h2, (hw.cell (p := ⟨b, 1, none⟩) hb').trans h3, (hw.cell (p := ⟨c, 0, none⟩) hc').trans h4, (hw.cell (p := ⟨c, 1, none⟩) hc').trans h5, Nat.le_trans h6 hw.size, h7.trans (hw.mono h6)⟩
theorem last8 {a b c d e f g h : Prop} (H : a ∧ b ∧ c ∧ d ∧ e ∧ f ∧ g ∧ h) : h := H.2.2.2.2.2.2.2
theorem putL_le (xs : List Entry) (k s : ByteArray) (n : Int) : (putL xs k s n).length ≤ xs.length + 1 := by
  unfold putL; split <;> simp

end Go.Proofs.Ytcphcgkbjlgkiaa
