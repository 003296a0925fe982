/- The walks of package mix's isLetter and letters, as an iterator. -/
import Derived.Test.YthnngndnpigjbaaGreatLabelMath
import Derived.Test.YthnngndnpigjbaaGreatSame
import Derived.Test.YthnngndnpigjbaaGreatRangeN
import Derived.Laws.BitsAll
namespace Go.Proofs.YthnngndnpigjbaaGreat
open Go.RowKit Go.Shelf
attribute [local go_sem] Oper.semAt_some

theorem or32 (c : UInt8) : bits .or .u8 (c.toNat : Int) 32 = ((c ||| 32).toNat : Int) := by
  have : ∀ n : Fin 256, bits .or .u8 ((n.val : Nat) : Int) 32 = ((n.val ||| 32 : Nat) : Int) := by decide +kernel
  have h := this ⟨c.toNat, c.toNat_lt⟩
  rw [UInt8.toNat_or]
  exact h
theorem or32_let (c : UInt8) : letB c = (decide (97 ≤ (c ||| 32).toNat) && decide ((c ||| 32).toNat ≤ 122)) := by
  have : ∀ n : Fin 256, ((decide (65 ≤ n.val) && decide (n.val ≤ 90)) || (decide (97 ≤ n.val) && decide (n.val ≤ 122))) = (decide (97 ≤ (n.val ||| 32)) && decide ((n.val ||| 32) ≤ 122)) := by decide +kernel
  have h := this ⟨c.toNat, c.toNat_lt⟩
  rw [UInt8.toNat_or]
  exact h
theorem ends_L (n : Nat) (hn : 1 ≤ n) (Bn : Nat) (s : ByteArray) (hs : s.size ≤ maxLen) (w : World) (hB : Bn < w.heap.size) (hc : w.cell? ⟨Bn, 0, none⟩ = some (.string s)) :
    SeqL Fence.wide n Tryz.prog 75 #[.pointer (some ⟨Bn, 0, none⟩)] (fun x : Nat => #[Value.int .i64 (x : Int)]) (fun W W' => W'.cell? ⟨Bn, 0, none⟩ = W.cell? ⟨Bn, 0, none⟩) (endsL s.data.toList) w :=
  fun l J Jx W hW _ _ hY h0 => (ends1_in n hn l Bn s hs J Jx hY W ((hW.cell (p := ⟨Bn, 0, none⟩) hB).trans hc) h0).mono fun _ _ ⟨h1, h2⟩ => ⟨h1, h2.imp (fun ⟨_, e, h⟩ => e ▸ h) id⟩
theorem grown_below {W W' : World} (hb : Below W.heap.size W W') : W.grownBy W' none := ⟨hb.os, hb.tape, hb.output, hb.size, fun i hi _ => hb.block i hi⟩
theorem abides_below {β : Type} {B : Nat} {J : β → World → Prop} (hJ : AbidesFrom B J) {s : β} {W W' : World} (h : J s W) (hb : Below W.heap.size W W') : J s W' := hJ s W W' none h (grown_below hb) (fun _ e => by cases e)

theorem at0_byte (s : ByteArray) (i : Nat) (h : i < s.size) : at0 s.data.toList i = s[i]'h := by
  unfold at0
  rw [List.getElem?_eq_getElem (by simpa using h)]
  rfl
/-- Behind a name's last label stands a 0, and no more. -/
theorem name_end {s : ByteArray} (h : isName s.data.toList = true) : ∃ q, q = pos (labs s.data.toList).1 (labs s.data.toList).1.length ∧ q + 1 = s.size ∧ ∃ hq : q < s.size, (s[q]'hq).toNat = 0 := by
  refine ⟨_, rfl, ?_⟩
  rw [pos_all]
  have h1 := ((isName_iff _).1 h).2
  have he := enc_le s.data.toList
  have hd : s.data.toList = enc (labs s.data.toList).1 ++ [0] := isName_eq h
  have hsz : s.data.toList.length = s.size := by simp
  rw [h1] at he
  simp only [List.length_singleton] at he
  have hq : (enc (labs s.data.toList).1).length < s.size := by omega
  refine ⟨by omega, hq, ?_⟩
  rw [← at0_byte s _ hq]
  unfold at0
  generalize enc (labs s.data.toList).1 = e at hd hq ⊢
  rw [hd]
  simp

end Go.Proofs.YthnngndnpigjbaaGreat
