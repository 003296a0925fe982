/- The walks of package pack's Writer's Name, Full, Set, and of its Reader's Left, Part; Name and Num by a bad reader. Conditions: none. -/
import Derived.Test.YtgfpnkakglgokaaWriteName
import Derived.Test.YtgfpnkakglgokaaReadName
import Derived.Test.YtgfpnkakglgokaaRes
import Derived.Laws.IdiomCopy
import Derived.Shelf.Spec.SlicesInsert
import Derived.Deep.RegionHeld3
namespace Go.Proofs.Ytgfpnkakglgokaa
open Go.RowKit Go.Lib

section
variable {K : Nat → Prop} {w : World} {b mb cnt : Nat} {lim : Int} {l : Bs} {R : Rests}
theorem wName_any (n : ByteArray) (hn : isName n.data.toList = true) (h : Wn K w b mb cnt lim l R) (hfit : (l.length + n.size : Int) ≤ lim) (hlim : lim ≤ 140737488355000) (hcnt : cnt ≤ 1000000) (hR : ∀ k p, R k = some p → p < 16384) :
    Calls Try.prog 24 #[.pointer (some ⟨b, 0, none⟩), .string n] w (NamePostW K b mb (cnt + 255) lim (wname true (labs n.data.toList).1 l R) w) := by
  have H := Lib.hid (name_any true n hn h hfit hlim hcnt hR)
  generalize wname true (labs n.data.toList).1 l R = X at H ⊢
  clear h hfit hlim hcnt hR hn
  go_enter Try.func24, Try.ntmps24
  go_wp2_with (fail)
  with_reducible refine H.out.mono ?_
  rintro e w1 ⟨rfl, h1, h2⟩
  have H1 := Lib.hid (And.intro h1 h2)
  clear h1 h2
  go_wp2_with (fail)
  refine bodyPost_end (results_none rfl _ _ _) rfl ?_
  exact ⟨rfl, H1.out⟩
theorem wFull_any (n : ByteArray) (hn : isName n.data.toList = true) (h : Wn K w b mb cnt lim l R) (hfit : (l.length + n.size : Int) ≤ lim) (hlim : lim ≤ 140737488355000) (hcnt : cnt ≤ 1000000) (hR : ∀ k p, R k = some p → p < 16384) :
    Calls Try.prog 67 #[.pointer (some ⟨b, 0, none⟩), .string n] w (NamePostW K b mb (cnt + 255) lim (wname false (labs n.data.toList).1 l R) w) := by
  have H := Lib.hid (name_any false n hn h hfit hlim hcnt hR)
  generalize wname false (labs n.data.toList).1 l R = X at H ⊢
  clear h hfit hlim hcnt hR hn
  go_enter Try.func67, Try.ntmps67
  go_wp2_with (fail)
  with_reducible refine H.out.mono ?_
  rintro e w1 ⟨rfl, h1, h2⟩
  have H1 := Lib.hid (And.intro h1 h2)
  clear h1 h2
  go_wp2_with (fail)
  refine bodyPost_end (results_none rfl _ _ _) rfl ?_
  exact ⟨rfl, H1.out⟩
end
def setB (l : Bs) (a n : Nat) : Bs := l.take a ++ [UInt8.ofNat (n / 256), UInt8.ofNat (n % 256)] ++ l.drop (a + 2)
set_option maxRecDepth 100000 in
set_option maxHeartbeats 2000000 in
theorem wSet_any {K : Nat → Prop} {w : World} {b : Nat} {lim : Int} {full : Bool} {m : Value} {l : List UInt8} (h : Wr K w b lim full m l) (a n : Nat) (ha : a + 2 ≤ l.length) (hl : l.length ≤ 140737488355328) (hn : n < 65536) :
    Calls Try.prog 54 #[.pointer (some ⟨b, 0, none⟩), .int .i64 (a : Int), .int .u16 (n : Int)] w fun e w' => e = .returned (.tuple #[]) ∧ Wr K w' b lim full m (setB l a n) ∧ KeepK K w w' := by
  obtain ⟨h1, v, h2, h3, h4⟩ := h
  obtain ⟨g, c, rfl, hgl, hc1, hc2, hcell⟩ := h3.form (by omega)
  have c0 : w.cell? ⟨b, 0, none⟩ = some (.slice (some ⟨g, 0, none⟩) l.length c) := h2.cell 0
  have hbl := h2.lt
  unfold maxLen at hc2
  have hg : g ≠ b ∧ ¬ K g := h4 g rfl
  have hadd : ∀ k : Nat, (⟨g, 0, none⟩ : Addr).add k = ⟨g, k, none⟩ := fun k => by rw [Go.WideShapes.add_plain, Nat.zero_add]
  have hsz : ∀ W : World, (sizeOf (Try.prog.elem 120)).run Try.prog W = .ok 1 W := fun W => by rfl
  have hr1 : ∀ W : World, (Instr.slice 120 (.slice (some ⟨g, 0, none⟩) l.length c) (some (.int .i64 (a : Int))) none none).run Try.prog W = .ok (.slice (some ⟨g, a, none⟩) (l.length - a) (c - a)) W := fun W => by
    rw [run_slice_l (P := Try.prog) W 120 (some ⟨g, 0, none⟩) l.length c Try.underlying120 .i64 (a : Int) (by omega) (by omega), hsz]
    have : ¬ c = a := by omega
    simp [sliced, Result.andThen, hadd, this]
  have hlI : (l.length : Int) ≤ 140737488355328 := by omega
  have haI : (a : Int) ≤ (l.length : Int) - 2 := by omega
  have hl2 : (2 : Int) ≤ (l.length : Int) := by omega
  have e1 : IntKind.u8.wrap ((n : Int) / 256) = ((n / 256 : Nat) : Int) := by rw [IntKind.wrap_u8]; omega
  have e2 : IntKind.u8.wrap (n : Int) = ((n % 256 : Nat) : Int) := by rw [IntKind.wrap_u8]; omega
  have hi256 : (n : Int) / 256 ≤ 255 := by omega
  obtain ⟨W, hW⟩ : ∃ W, (w.alloc (.cells #[.int .u8 ((n : Int) / 256), .int .u8 ((n : Int) % 256)] 147)).drew = W := ⟨_, rfl⟩
  have hc8 : [Value.int .u8 ((n : Int) / 256), .int .u8 ((n : Int) % 256)] = [UInt8.ofNat (n / 256), UInt8.ofNat (n % 256)].map b8 := by
    have e1 : (UInt8.ofNat (n / 256)).toNat = n / 256 := by rw [UInt8.toNat_ofNat']; omega
    have e2 : (UInt8.ofNat (n % 256)).toNat = n % 256 := by rw [UInt8.toNat_ofNat']; omega
    simp only [List.map_cons, List.map_nil, b8, e1, e2]
    rfl
  have h3W : Sl W 1 (.slice (some ⟨g, 0, none⟩) l.length c) l.length (l.map b8) := by rw [← hW]; exact h3.alloc _
  have hcp : ∀ ty : TypeId, (Builtin.copy_ #[120, 120] ty #[.slice (some ⟨g, a, none⟩) (l.length - a) (c - a), .slice (some ⟨w.heap.size, 0, none⟩) 2 2]).run Try.prog W = .ok (goInt 2) (W.setCells g a [.int .u8 ((n : Int) / 256), .int .u8 ((n : Int) % 256)]) := fun ty => by
    refine run_copy_cells (P := Try.prog) W 120 120 ty 5 g a (l.length - a) (c - a) ⟨w.heap.size, 0, none⟩ 2 2 [.int .u8 ((n : Int) / 256), .int .u8 ((n : Int) % 256)] Try.underlying120 (by kernel_rfl) (by show 2 = min 2 (l.length - a); omega) (fun j u hu => ?_) (fun j hj => ?_) (fun j hj => ?_) (fun u hu => ?_)
    · rw [Go.WideShapes.add_plain, Nat.zero_add, ← hW]
      exact (World.cell?_alloc_new w _ _ j).trans (by simpa using hu)
    · have hj' : a + j < l.length := by simp at hj; omega
      rw [h3W.cell (g := g) rfl (j := a + j) (u := b8 (l[a + j]'hj')) (by rw [List.getElem?_map, List.getElem?_eq_getElem hj']; rfl)]
      rfl
    · exact h3W.free (g := g) rfl (by simp at hj; omega)
    · simp at hu
      rcases hu with rfl | rfl <;> rfl
  have hover := h3W.over a ([UInt8.ofNat (n / 256), UInt8.ofNat (n % 256)].map b8) (by simp; omega)
  rw [← hc8] at hover
  have hfin : (l.map b8).take a ++ [Value.int .u8 ((n : Int) / 256), .int .u8 ((n : Int) % 256)] ++ (l.map b8).drop (a + [Value.int .u8 ((n : Int) / 256), .int .u8 ((n : Int) % 256)].length) = (setB l a n).map b8 := by
    rw [hc8]
    simp [setB, List.map_take, List.map_drop]
  rw [hfin] at hover
  have hlen : (setB l a n).length = l.length := by simp [setB]; omega
  have hKW : KeepK (fun i => i < w.heap.size ∧ i ≠ g) w (W.setCells g a [.int .u8 ((n : Int) / 256), .int .u8 ((n : Int) % 256)]) := by
    refine KeepK.setCells ?_ g a _ (fun i hi => ⟨?_, hi.2⟩)
    · rw [← hW]; exact ((KeepK.refl _ w).alloc (fun i hi => hi.1) _).drew
    · rw [← hW]; have := hi.1; show i < (w.alloc _).heap.size; simp; omega
  have HS := Lib.hid (And.intro h1 (And.intro h2 (And.intro h4 (And.intro hg (And.intro hover (And.intro hlen hKW))))))
  have HW := Lib.hid hW
  have HCP := Lib.hid hcp
  clear h1 h2 h3 h4 hg ha hcell hc1 hc2 hl hadd hsz hc8 h3W hcp hover hlen hKW hfin hW
  have hd1 : decide ((a : Int) < 0) = false := by simp
  have k0 := (World.cell?_alloc_lt w (.cells #[.int .u8 ((n : Int) / 256), .int .u8 ((n : Int) % 256)] 147) ⟨b, 0, none⟩ hbl).trans c0
  have k1 := (HS.out.2.2.2.2.2.2.cell (p := ⟨b, 0, none⟩) ⟨hbl, fun e => HS.out.2.2.2.1.1 e.symm⟩).trans c0
  go_enter Try.func54, Try.ntmps54
  go_wp2_with (fail)
  go_region_held3 (fun w' => w'.cell? ⟨b, 0, none⟩ = some (.slice (some ⟨g, 0, none⟩) l.length c)) (first | assumption | exact k0 | exact k1)
    ((refine step_copy_runI (by rfl) (.tmp 34) (.tmp 35) 120 120 rfl _ _ rfl rfl (by rw [HW.out]; exact HCP.out _) ?_))
  go_wp2_with (fail)
  refine bodyPost_end (results_none rfl _ _ _) rfl ?_
  obtain ⟨h1, h2, h4, hg, hover, hlen, hKW⟩ := HS.out
  refine ⟨rfl, ⟨fun i hi => ⟨Nat.lt_of_lt_of_le (h1 i hi).1 hKW.size, (h1 i hi).2⟩, .slice (some ⟨g, 0, none⟩) l.length c, h2.keepK hKW ⟨hbl, fun e => hg.1 e.symm⟩, ?_, h4⟩, hKW.mono fun i hi => ⟨(h1 i hi).1, fun e => hg.2 (e ▸ hi)⟩⟩
  rw [hlen]
  exact hover
end Go.Proofs.Ytgfpnkakglgokaa
