/- The walk of cut.isNS. Conditions: none. The walk of cut.Servers at a set of one host, of which the cache holds an answer. Conditions: none. -/
import Derived.Test.YtfipacfompihkaaSetsM
import Derived.Test.YtfipacfompihkaaRet
import Derived.Test.YtfipacfompihkaaCaG
import Derived.Test.YtfipacfompihkaaReaderS
namespace Go.Proofs.Ytfipacfompihkaa
open Go.RowKit Go.Lib

set_option maxRecDepth 100000 in
set_option maxHeartbeats 4000000 in
theorem isNS_any (n : ByteArray) (t l : Int) (A : Option Addr) (xs : List ByteArray) (c : Nat) (w : World)
    (HC : ∀ W, Below w.heap.size w W → Calls Try.prog 41 #[setV n t l A xs c] W fun e w' => e = .returned (.int .i64 (setCode n t l xs)) ∧ Below W.heap.size W w') :
    Calls Try.prog 64 #[setV n t l A xs c] w fun e w' => e = .returned (.bool (decide (t = 2) && decide (setCode n t l xs = 0))) ∧ Below w.heap.size w w' := by
  have HC := Lib.hid HC
  obtain ⟨z, hz⟩ : ∃ z, setCode n t l xs = z := ⟨_, rfl⟩
  rw [hz] at HC ⊢
  clear hz
  unfold setV at *
  have HW := Lib.hid (show Below w.heap.size w (w.alloc (.cells #[.string n, .int .u16 t, .int .u32 l, .slice A xs.length c] 49)) from (Below.refl _ _).alloc (Nat.le_refl _) _)
  by_cases h2 : t = 2
  · subst h2
    go_enter Try.func64, Try.ntmps64
    go_wp2_with (fail)
    with_reducible refine (HC.out _ HW.out).mono ?_
    rintro e w2 ⟨rfl, hb⟩
    have HB := Lib.hid (HW.out.trans (hb.mono HW.out.size))
    clear hb HC
    go_wp2_with (fail)
    go_ret
    exact ⟨ret_b (by simp; first | done | (cases h : (z == 0) <;> simp_all)), HB.out⟩
  · rw [decide_eq_false h2, Bool.false_and]
    clear HC
    go_enter Try.func64, Try.ntmps64
    go_wp2_with (fail)
    go_ret
    exact ⟨ret_b (by simp), HW.out⟩
end Go.Proofs.Ytfipacfompihkaa

namespace Go.Proofs.Ytfipacfompihkaa
open Go.RowKit Go.Lib

theorem keyed32s : Maps.Keyed Try.prog 23 := Maps.int_keyed Try.underlying23
theorem wf32s {a : Int} (h : 0 ≤ a ∧ a ≤ 4294967295) : (Lit.int .u32 a).wf = true := by
  simp [Lit.wf, IntKind.min, IntKind.max, IntKind.signed, IntKind.bits]; omega
def u32C (Ls : List Int) : List Value := Ls.map fun a => Value.int .u32 a
theorem u32C_app (Ls : List Int) (a : Int) : u32C (Ls ++ [a]) = u32C Ls ++ [.int .u32 a] := by simp [u32C]
theorem info_u32s : (Try.prog.info? 23).map (fun i => (i.zero, i.size, i.bytes)) = some (some (.int .u32 0), 1, 4) := by kernel_rfl
theorem addr_yes {x : Bs} (h : okD 1 x = true) : addrN x = ((beN x : Int), 0) := by unfold addrN; rw [if_pos h]
/-- What is told: of the texts xs the numbers, one at least. -/
def ServP (xs : List ByteArray) (K : Nat → Prop) (w : World) (e : Ending) (w' : World) : Prop :=
  ∃ A c, ∃ Ls : List Int, e = .returned (.tuple #[.slice A Ls.length c, .slice none 0 0]) ∧ Sl w' 1 (.slice A Ls.length c) Ls.length (u32C Ls) ∧ Ls ≠ [] ∧ (∀ a ∈ Ls, ∃ x ∈ xs, a = (beN x.data.toList : Int)) ∧ KeepK K w w'
set_option maxRecDepth 100000 in
set_option maxHeartbeats 8000000 in
theorem serv_any {w : World} {g mb room m : Nat} {L : Nat → Prop} {V : Bs → Int → Option En} (hC : CaV w g mb room m L V) (n h : ByteArray) (hh : h.size ≤ maxLen) (l now : Int) (hnow : 0 ≤ now ∧ now ≤ 4611686018427387904) (b c : Nat)
    (hT : STab w (some ⟨b, 0, none⟩) [h]) (hLb : ¬ L b) (hok : setCode n 2 l [h] = 0)
    (HC : ∀ W, Below w.heap.size w W → Calls Try.prog 41 #[setV n 2 l (some ⟨b, 0, none⟩) [h] c] W fun e w' => e = .returned (.int .i64 (setCode n 2 l [h])) ∧ Below W.heap.size W w')
    {yn : ByteArray} {yt yl yrk yun : Int} {xs : List ByteArray} (hg : gets V h 1 1 now = some ⟨yn, yt, yl, xs, yrk, false, false, yun⟩) (hx0 : 0 < xs.length) (hx6 : xs.length ≤ 64) (hxd : ∀ x ∈ xs, okD 1 x.data.toList = true) :
    Calls Try.prog 29 #[.pointer (some ⟨g, 0, none⟩), setV n 2 l (some ⟨b, 0, none⟩) [h] c, .int .i64 now] w (ServP xs (fun i => i < w.heap.size ∧ ¬ L i) w) := by
  obtain ⟨k0, hk0, hq0, hq1, hq2⟩ := (by
    have h := info_u32s
    cases hi : Try.prog.info? 23 with
    | none => rw [hi] at h; cases h
    | some i => rw [hi] at h; simp at h; exact ⟨i, rfl, h.1, h.2.1, h.2.2⟩ : ∃ i, Try.prog.info? 23 = some i ∧ i.zero = some (.int .u32 0) ∧ i.size = 1 ∧ i.bytes = 4)
  have HN := Lib.hid (fun W hW => isNS_any n 2 l (some ⟨b, 0, none⟩) [h] c W (fun X hX => HC X ((hW : Below w.heap.size w W).trans (hX.mono hW.size))))
  rw [hok] at HN
  have HG := Lib.hid (fun W (hW : Below w.heap.size w W) => get_any (hC.low hW) h hh 1 1 now (by omega) hnow)
  have HX := Lib.hid (And.intro hC (And.intro hLb (And.intro hT (And.intro hg (And.intro hx0 (And.intro hx6 hxd))))))
  clear hok HC hC hh hnow hLb hT hg hx0 hx6 hxd
  unfold setV at *
  go_enter Try.func29, Try.ntmps29
  have HW := Lib.hid (show Below w.heap.size w (w.alloc (.cells #[.string n, .int .u16 2, .int .u32 l, .slice (some ⟨b, 0, none⟩) 1 c] 49)) from (Below.refl _ _).alloc (Nat.le_refl _) _)
  go_wp2_with (fail)
  refine wp_scope_straight ?_
  go_wp2_with (fail)
  refine (HN.out _ HW.out).mono ?_
  rintro e w2 ⟨rfl, hb⟩
  have HB := Lib.hid (HW.out.trans (hb.mono HW.out.size))
  have hBx := (Blk.new w 49 #[.string n, .int .u16 2, .int .u32 l, .slice (some ⟨b, 0, none⟩) 1 c]).below hb (by simp)
  have x3 := hBx.cell 3
  have hmm : ∀ W : World, (Instr.makeMap 143 none).run Try.prog W = .ok (.map (some W.heap.size)) (W.alloc (.map #[] 0)) := fun W => rfl
  have hxl := hBx.lt
  clear hb HN
  go_wp2_with (fail)
  refine wp_label ?_
  go_wp2_with (fail)
  obtain ⟨W3, hW3⟩ : ∃ W3, w2.alloc (.map #[] 0) = W3 := ⟨_, rfl⟩
  rw [hW3]
  obtain ⟨M, hM⟩ : ∃ M, w2.heap.size = M := ⟨_, rfl⟩
  rw [hM]
  have H3 : RowKit.Hid (Below w.heap.size w W3 ∧ MapV Try.prog 23 W3 M 0 (fun _ => none) ∧ w.heap.size < M) := Lib.hid (by
    refine ⟨?_, ?_, by omega⟩
    · rw [← hW3]; exact HB.out.alloc (by omega) _
    · rw [← hW3, ← hM]; exact MapV.made w2 _ _)
  clear hW3 hM hBx x3 hxl HB HW hmm
  go_loopg [8, 9, 12, 13, 14, 16, 17, 18, 26] 1 (fun gg v8 v9 v12 v13 v14 v16 v17 v18 v26 wr => ∃ (i : Nat) (A : Option Addr) (cl : Nat) (Ls : List Int), v26 = .int .i64 (i : Int) ∧ v8 = .slice A Ls.length cl ∧ v9 = .slice none 0 0 ∧ Aside (gg + i = 1) ∧ Aside (i = 0 → A = none ∧ cl = 0 ∧ Ls = [] ∧ wr = W3) ∧ Aside (i = 1 → Sl wr 1 (.slice A Ls.length cl) Ls.length (u32C Ls) ∧ Ls ≠ [] ∧ (∀ a ∈ Ls, ∃ x ∈ xs, a = (beN x.data.toList : Int)) ∧ KeepK (fun i => i < w.heap.size ∧ ¬ L i) w wr))
  case atStart => exact ⟨0, none, 0, [], rfl, rfl, rfl, rfl, (fun _ => ⟨rfl, rfl, rfl, rfl⟩), (fun h => by cases h)⟩
  case round =>
    obtain ⟨i, A, cl, Ls, rfl, rfl, rfl, hi, h0, h1⟩ := hrel
    by_cases hlt : i < 1
    · obtain ⟨rfl, rfl, rfl, rfl⟩ := h0.out (by omega)
      have hi0 : i = 0 := by omega
      subst hi0
      clear h0 h1
      have hltI : ((0 : Nat) : Int) < 1 := by omega
      obtain ⟨b', off', hbb, hbl, hcl⟩ := HX.out.2.2.1 (by simp)
      injection hbb with hbb
      injection hbb with hb1 hb2 _
      subst hb1 hb2
      have q0 : w.cell? ⟨b, 0, none⟩ = some (.string h) := hcl 0 _ rfl
      have q1 : wr.cell? ⟨b, 0, none⟩ = some (.string h) := (H3.out.1.cell hbl).trans q0
      have hg4 := HG.out _ H3.out.1
      have HG4 := Lib.hid hg4
      clear hg4 HG q0 hcl hbl
      go_wp2_with (fail)
      with_reducible refine HG4.out.mono ?_
      rintro e w5 ⟨hge, _, hk5⟩
      rw [HX.out.2.2.2.1] at hge
      obtain ⟨A5, c5, rfl, hs5, ho5⟩ := hge
      dsimp only [foundV] at *
      obtain ⟨g5, cap5, hv5, hl5, _, _, hc5⟩ := hs5.form (by have := HX.out.2.2.2.2.1; omega)
      injection hv5 with hv5 _ hv6
      subst hv5 hv6
      have hgo : wr.heap.size ≤ g5 := ho5 g5 (by simp [Value.ownBlock])
      have hnL : ¬ L M := fun h => by have := HX.out.1.lt.2.2 M h; have := H3.out.2.2; omega
      have hM5 : MapV Try.prog 23 w5 M 0 (fun _ => none) := H3.out.2.1.keepK hk5 ⟨H3.out.2.1.lt, hnL⟩
      have hkw : KeepK (fun i => i < w.heap.size ∧ ¬ L i) w w5 := (KeepK.of_below H3.out.1 fun i hi => hi.1).trans (hk5.mono fun i hi => ⟨Nat.lt_of_lt_of_le hi.1 H3.out.1.size, hi.2⟩)
      have H5 := Lib.hid (And.intro hM5 (And.intro hkw (And.intro hl5 (And.intro hc5 hgo))))
      clear hk5 hs5 ho5 hgo hnL hM5 hkw hl5 hc5 HG4 q1
      go_wp2_with (fail)
      obtain ⟨W, hW⟩ : ∃ W, w5.alloc (.cells #[.string yn, .int .u16 yt, .int .u32 (min (yun - now) 604800), .slice (some ⟨g5, 0, none⟩) xs.length c5, .int .u8 yrk, .bool false, .bool false] 62) = W := ⟨_, rfl⟩
      rw [hW]
      have H6 : RowKit.Hid (KeepK (fun i => i < w.heap.size ∧ ¬ L i) w W ∧ MapV Try.prog 23 W M 0 (fun _ => none) ∧ g5 < W.heap.size ∧ M ≠ g5 ∧ w.heap.size < M ∧ M < W.heap.size ∧ ∀ (j : Nat) (u : Value), (xs.map Value.string)[j]? = some u → W.cell? ⟨g5, j, none⟩ = some u) := Lib.hid (by
        obtain ⟨q1, q2, q3, q4, q5⟩ := H5.out
        have hMr := H3.out.2.1.lt
        have hMw := q1.lt
        rw [← hW]
        refine ⟨q2.alloc (fun i hi => Nat.lt_of_lt_of_le hi.1 q2.size) _, q1.alloc _, by simp; omega, by omega, H3.out.2.2, by simp; omega, fun j u hu => ?_⟩
        exact (World.cell?_of_block (Below.heap_alloc w5 _ g5 q3)).trans (q4 j u hu))
      clear H5 H3 hW
      go_loopg [8, 16, 17, 18, 55] xs.length (fun gg v8 v16 v17 v18 v55 wq => ∃ (k : Nat) (A : Option Addr) (cl : Nat) (Ls : List Int) (n : Nat) (f : Lit → Option Value), v55 = .int .i64 (k : Int) ∧ v8 = .slice A Ls.length cl ∧ Aside (gg + k = xs.length ∧ n ≤ k ∧ Ls.length ≤ k) ∧ Aside (Sl wq 1 (.slice A Ls.length cl) Ls.length (u32C Ls) ∧ ∀ q, (Value.slice A Ls.length cl).ownBlock = some q → W.heap.size ≤ q) ∧ Aside (MapV Try.prog 23 wq M n f) ∧ Aside (Ls = [] → k = 0 ∧ ∀ kl, f kl = none) ∧ Aside (∀ kl, f kl = none ∨ f kl = some (.int .i64 1)) ∧ Aside (∀ a ∈ Ls, ∃ x ∈ xs, a = (beN x.data.toList : Int)) ∧ Aside (KeepK (fun i => i < W.heap.size ∧ i ≠ M) W wq))
      case atStart => exact ⟨0, none, 0, [], 0, fun _ => none, rfl, rfl, ⟨by omega, by omega, by simp⟩, ⟨Sl.nil _ _, fun q hq => by simp [Value.ownBlock] at hq⟩, H6.out.2.1, (fun _ => ⟨rfl, fun _ => rfl⟩), (fun _ => .inl rfl), (fun a ha => by cases ha), KeepK.refl _ _⟩
      case round =>
        obtain ⟨k, A, cl, Ls, nq, f, rfl, rfl, hgk, hS, hM, hE, hf1, hin, hkw⟩ := hrel
        by_cases hlk : k < xs.length
        · have hlkI : (k : Int) < (xs.length : Int) := by omega
          have hx64 : xs.length ≤ 64 := HX.out.2.2.2.2.2.1
          obtain ⟨x, hx⟩ : ∃ x, xs[k]? = some x := ⟨_, List.getElem?_eq_getElem hlk⟩
          have hxm := List.mem_of_getElem? hx
          have hokd := HX.out.2.2.2.2.2.2 x hxm
          have hcx : wr.cell? ⟨g5, k, none⟩ = some (.string x) := (hkw.out.cell (p := ⟨g5, k, none⟩) ⟨H6.out.2.2.1, fun e => H6.out.2.2.2.1 e.symm⟩).trans (H6.out.2.2.2.2.2.2 k _ (by rw [List.getElem?_map, hx]; rfl))
          have hadd := addr_any x (by have := okD_len4 hokd; have h9 : x.data.toList.length = x.size := by simp
                                      omega) wr
          rw [addr_yes hokd] at hadd
          obtain ⟨a, ha⟩ : ∃ a : Int, (beN x.data.toList : Int) = a := ⟨_, rfl⟩
          have har : 0 ≤ a ∧ a ≤ 4294967295 := by
            have h1 := beN_lt x.data.toList
            rw [okD_len4 hokd] at h1
            omega
          rw [ha] at hadd
          have HADD := Lib.hid hadd
          have HXM := Lib.hid (And.intro hxm ha)
          clear hadd hokd hx hxm ha
          go_wp2_with (fail)
          with_reducible refine HADD.out.mono ?_
          rintro e w6 ⟨rfl, hb6⟩
          have hM6 := hM.out.below hb6 hM.out.lt
          have hS6 := hS.out.1.below hb6 hS.out.1.lt
          have hkw6 : KeepK (fun i => i < W.heap.size ∧ i ≠ M) W w6 := hkw.out.trans (KeepK.of_below hb6 fun i hi => Nat.lt_of_lt_of_le hi.1 hkw.out.size)
          have hkey := Maps.keyOf_int_mk (a := a) Try.underlying23 (wf32s har)
          have hlook := hM6.look keyed32s Try.underlying143 (z := .int .i64 0) (by rfl) hkey
          rcases hf1.out (.int .u32 a) with hfa | hfa
          case inr =>
            rw [hfa] at hlook
            dsimp only [Option.getD] at hlook
            have H7 := Lib.hid (And.intro hM6 (And.intro hS6 hkw6))
            have hne : Ls ≠ [] := fun e => by have := (hE.out e).2 (.int .u32 a); rw [hfa] at this; cases this
            have HNE := Lib.hid hne
            clear hM6 hS6 hkw6 hkey hne hfa HADD hb6 hcx
            go_wp2_with (fail)
            go_roundg (xs.length - (k + 1))
            case measure => have := hgk.out; omega
            case rel => exact ⟨k + 1, A, cl, Ls, nq, f, by go_num, rfl, (by have := hgk.out; exact ⟨by omega, by omega, by omega⟩), ⟨H7.out.2.1, hS.out.2⟩, H7.out.1, (fun e => absurd e HNE.out), hf1.out, hin.out, H7.out.2.2⟩
          case inl =>
            rw [hfa] at hlook
            dsimp only [Option.getD] at hlook
            obtain ⟨w7, hst, hM7, hg7, _⟩ := hM6.store keyed32s Try.underlying143 (by have := hgk.out; have := HX.out.2.2.2.2.2.1; unfold maxLen; omega) hkey (key_int_isKey .u32 a) (.int .i64 1)
            have hg7z := hg7.size
            have hown : ∀ q, (Value.slice A Ls.length cl).ownBlock = some q → W.heap.size ≤ q := hS.out.2
            have hS7 : Sl w7 1 (.slice A Ls.length cl) Ls.length (u32C Ls) := hS6.keep hg7.size fun q hq => hg7.block q (hS6.lt q hq) (fun e => by injection e with e; have := hown q hq; have := H6.out.2.2.2.2.2.1; omega)
            have hkw7 : KeepK (fun i => i < W.heap.size ∧ i ≠ M) W w7 := hkw6.grown hg7 (fun i hi => Nat.lt_of_lt_of_le hi.1 hkw6.size) (fun i hi e => hi.2 (by injection e))
            have H7 := Lib.hid (And.intro hM7 (And.intro hS7 (And.intro hkw7 hown)))
            have HSL := Lib.hid (hS7.alloc (.cells #[.int .u32 a] 23))
            have HSR := Lib.hid (src_new (P := Try.prog) Try.underlying22 w7 23 (.int .u32 a) rfl)
            have hLl : Ls.length ≤ 64 := by have := hgk.out; have := HX.out.2.2.2.2.2.1; omega
            clear hM6 hS6 hkw6 hkey HADD hb6 hcx hM7 hg7 hS7 hkw7 hown
            go_wp2_with (at_builtin; go_must (refine wpList_append_sl _ rfl (.tmp 76) (.tmp 78) 22 22 rfl 23 k0 (.int .u32 0) 1 4 Try.underlying22 hk0 hq0 hq1 hq2 rfl (.slice A Ls.length cl) Ls.length (u32C Ls) rfl HSL.out _ rfl 1 [.int .u32 a] HSR.out (by unfold maxLen; omega) (by omega) ?_); intro v8 w8 hs8 hg8 hv8; obtain ⟨A8, c8, rfl, _⟩ := hs8.shape; have H8 := Lib.hid (And.intro hs8 (And.intro hg8 hv8)); clear hs8 hg8 hv8)
            go_roundg (xs.length - (k + 1))
            case measure => have := hgk.out; omega
            case rel =>
              obtain ⟨hs8, hg8, hv8⟩ := H8.out
              obtain ⟨hM7, hS7, hkw7, hown⟩ := H7.out
              have hz8 : w7.heap.size + 1 ≤ w8.heap.size := by have := hg8.size; simp at this; omega
              have ho8 := own_from (B := W.heap.size) hown (by have := hkw7.size; simp; omega) hv8
              have hM8 : MapV Try.prog 23 w8 M (nq + 1) (fun x => if x.sameKey (.int .u32 a) then some (.int .i64 1) else f x) := (hM7.alloc _).grown hg8 (fun e => by have := hown M e.symm; have := H6.out.2.2.2.2.2.1; omega)
              have hk8 : KeepK (fun i => i < W.heap.size ∧ i ≠ M) W w8 := (hkw7.alloc (fun i hi => Nat.lt_of_lt_of_le hi.1 hkw7.size) _).grown hg8 (fun i hi => by have := hi.1; have := hkw7.size; simp; omega) (fun i hi e => by have := hown i e.symm; have := hi.1; omega)
              refine ⟨k + 1, A8, c8, Ls ++ [a], nq + 1, _, by go_num, by rw [List.length_append]; rfl, (by have := hgk.out; exact ⟨by omega, by omega, by rw [List.length_append]; simp; omega⟩), ⟨?_, ?_⟩, hM8, (fun e => by simp at e), (fun kl => ?_), (fun y hy => ?_), hk8⟩
              · rw [List.length_append, u32C_app]; exact hs8
              · rw [List.length_append]; exact ho8
              · split
                · exact .inr rfl
                · exact hf1.out kl
              · rcases List.mem_append.1 hy with hy | hy
                · exact hin.out y hy
                · exact ⟨x, HXM.out.1, by rw [List.mem_singleton.1 hy, HXM.out.2]⟩
        · have hkx : k = xs.length := by have := hgk.out.1; omega
          have hne : Ls ≠ [] := fun e => by have := (hE.out e).1; have := HX.out.2.2.2.2.1; omega
          have HEN := Lib.hid (And.intro hS.out.1 (And.intro hne (And.intro hin.out hkw.out)))
          go_wp2_with (fail)
          go_roundg 0
          case measure => have := hi.out; omega
          case rel => exact ⟨1, A, cl, Ls, by go_num, rfl, rfl, rfl, (fun h => by cases h), fun _ => ⟨HEN.out.1, HEN.out.2.1, HEN.out.2.2.1, H6.out.1.trans (HEN.out.2.2.2.mono fun i hi => ⟨Nat.lt_of_lt_of_le hi.1 H6.out.1.size, by have := H6.out.2.2.2.2.1; have := hi.1; omega⟩)⟩⟩
    · have hi1 : i = 1 := by have := hi.out; omega
      have hE := h1.out hi1
      subst hi1
      have HE := Lib.hid hE
      clear hE h0 h1
      go_wp2_with (fail)
      go_ret2
      exact ⟨_, _, _, rfl, HE.out⟩
end Go.Proofs.Ytfipacfompihkaa
