/- The walk of hardtacklaw20.lives. Conditions: none. -/
import Derived.Test.YthjkdpphbipgfaaRef20M
namespace Go.Proofs.Ythjkdpphbipgfaa
open Go.RowKit Go.Shelf Go.Lib

def zb20 : ByteArray := ⟨#[1, 98, 0]⟩
def rt20 : ByteArray := ⟨#[0]⟩
def in20 : RRec := ⟨⟨#[1, 97, 1, 98, 0]⟩, 2, 1, 0, ⟨#[1, 110, 1, 98, 0]⟩⟩
def out20 : RRec := ⟨⟨#[1, 99, 0]⟩, 1, 1, 0, ⟨#[97, 98, 99, 100]⟩⟩
def gl20 : RRec := ⟨⟨#[1, 78, 1, 98, 0]⟩, 1, 1, 0, ⟨#[97, 98, 99, 100]⟩⟩
def mo20 : RRec := ⟨⟨#[1, 109, 1, 98, 0]⟩, 1, 1, 0, ⟨#[97, 98, 99, 100]⟩⟩
theorem st_in : staysB zb20.data.toList in20 = true := by decide +kernel
theorem st_out : staysB zb20.data.toList out20 = false := by decide +kernel
theorem st_out_r : staysB rt20.data.toList out20 = true := by decide +kernel
theorem st_gl : staysB zb20.data.toList gl20 = true := by decide +kernel
theorem st_mo : staysB zb20.data.toList mo20 = true := by decide +kernel
theorem gb_gl : glueB (hostsL [in20]) gl20 = true := by decide +kernel
theorem gb_mo : glueB (hostsL [in20]) mo20 = false := by decide +kernel
theorem left1 : leftL zb20.data.toList [out20] = [] := by simp [leftL, st_out]
theorem left2 : leftL zb20.data.toList [in20, out20] = [in20] := by simp [leftL, st_out, st_in]
theorem left3 : leftL zb20.data.toList [gl20, mo20, out20] = [gl20, mo20] := by simp [leftL, st_out, st_gl, st_mo]
theorem glue1 : glueL zb20.data.toList [out20] [in20, out20] [gl20, mo20, out20] = [gl20] := by
  unfold glueL
  rw [left3, left_append, left1, left2]
  simp [gb_gl, gb_mo]
theorem gone1 : goneN zb20.data.toList [out20] [in20, out20] [gl20, mo20, out20] = 4 := by
  unfold goneN
  rw [left1, left2, glue1]
  rfl
theorem rtab_new (X : World) (r : RRec) (t : TypeId) : RTab (X.alloc (.cells #[.string r.n, .int .u16 r.t, .int .u16 r.c, .int .u32 r.l, .string r.d] t)) (some ⟨X.heap.size, 0, none⟩) [r] := by
  intro _
  refine ⟨X.heap.size, 0, rfl, by simp, fun j e he i u hu => ?_⟩
  match j, he with
  | 0, he =>
    injection he with he
    subst he
    rw [World.cell?_alloc_new]
    simpa [RRec.vs] using hu
  | j + 1, he => simp at he
theorem rtab_newL {W : World} {xs : List RRec} {t : TypeId} {g : Nat} {cs : Array Value} (h : Blk W g t cs) (hc : cs = (flatV RRec.vs xs).toArray) : RTab W (some ⟨g, 0, none⟩) xs := by
  intro _
  refine ⟨g, 0, rfl, h.lt, fun j e he i u hu => ?_⟩
  rw [h.cell, hc, List.getElem?_toArray, Nat.zero_add]
  exact flatV_at RRec.five xs j e i u he hu
theorem small20 (a b c : Option Addr) : MRec.Small ⟨0, 0, none, [], 0, a, [out20], 1, b, [in20, out20], 2, c, [gl20, mo20, out20], 3⟩ := by
  have a1 : out20.small := ⟨by decide, by decide⟩
  have a2 : in20.small := ⟨by decide, by decide⟩
  have a3 : gl20.small := ⟨by decide, by decide⟩
  have a4 : mo20.small := ⟨by decide, by decide⟩
  refine ⟨by simp, by simp, by simp, by simp, by simp, ?_, ?_, ?_⟩
  · intro e he
    simp only [List.mem_cons, List.not_mem_nil, or_false] at he
    subst he
    exact a1
  · intro e he
    simp only [List.mem_cons, List.not_mem_nil, or_false] at he
    rcases he with rfl | rfl
    · exact a2
    · exact a1
  · intro e he
    simp only [List.mem_cons, List.not_mem_nil, or_false] at he
    rcases he with rfl | rfl | rfl
    · exact a3
    · exact a4
    · exact a1

theorem last28 {a0 a1 a2 a3 a4 a5 a6 a7 a8 a9 a10 a11 a12 a13 a14 a15 a16 a17 a18 a19 a20 a21 a22 a23 a24 a25 a26 a27 : Prop} (H : a0 ∧ a1 ∧ a2 ∧ a3 ∧ a4 ∧ a5 ∧ a6 ∧ a7 ∧ a8 ∧ a9 ∧ a10 ∧ a11 ∧ a12 ∧ a13 ∧ a14 ∧ a15 ∧ a16 ∧ a17 ∧ a18 ∧ a19 ∧ a20 ∧ a21 ∧ a22 ∧ a23 ∧ a24 ∧ a25 ∧ a26 ∧ a27) : a27 := H.2.2.2.2.2.2.2.2.2.2.2.2.2.2.2.2.2.2.2.2.2.2.2.2.2.2.2
set_option maxRecDepth 100000 in
set_option maxHeartbeats 16000000 in
theorem lives20_any (w : World) : Calls Try.prog 9 #[] w fun e w' => e = .returned (.bool true) ∧ Below w.heap.size w w' := by
  go_enter Try.func9, Try.ntmps9
  go_wp2_with (fail)
  obtain ⟨v1, h0⟩ : ∃ W, w.alloc (.cells #[.string ⟨#[1, 97, 1, 98, 0]⟩, .int .u16 2, .int .u16 1, .int .u32 0, .string ⟨#[1, 110, 1, 98, 0]⟩] 30) = W := ⟨_, rfl⟩
  have b0 : Below w.heap.size w v1 := by rw [← h0]; exact below_alloc1 _ _
  have s0 : v1.heap.size = w.heap.size + 1 := by rw [← h0, World.size_alloc]
  have e0 : Blk v1 (w.heap.size) 30 #[.string ⟨#[1, 97, 1, 98, 0]⟩, .int .u16 2, .int .u16 1, .int .u32 0, .string ⟨#[1, 110, 1, 98, 0]⟩] := by
    have h := Blk.new w 30 #[.string ⟨#[1, 97, 1, 98, 0]⟩, .int .u16 2, .int .u16 1, .int .u32 0, .string ⟨#[1, 110, 1, 98, 0]⟩]
    rw [h0] at h
    exact h
  rw [h0]
  clear h0
  obtain ⟨v2, h1⟩ : ∃ W, v1.alloc (.cells #[.string ⟨#[1, 99, 0]⟩, .int .u16 1, .int .u16 1, .int .u32 0, .string ⟨#[97, 98, 99, 100]⟩] 30) = W := ⟨_, rfl⟩
  have b1 : Below v1.heap.size v1 v2 := by rw [← h1]; exact below_alloc1 _ _
  have s1 : v2.heap.size = w.heap.size + 1 + 1 := by rw [← h1, World.size_alloc]; rw [s0]
  have e1 : Blk v2 (w.heap.size + 1) 30 #[.string ⟨#[1, 99, 0]⟩, .int .u16 1, .int .u16 1, .int .u32 0, .string ⟨#[97, 98, 99, 100]⟩] := by
    have h := Blk.new v1 30 #[.string ⟨#[1, 99, 0]⟩, .int .u16 1, .int .u16 1, .int .u32 0, .string ⟨#[97, 98, 99, 100]⟩]
    rw [h1, s0] at h
    exact h
  rw [h1]
  clear h1
  obtain ⟨v3, h2⟩ : ∃ W, v2.alloc (.cells #[.string ⟨#[1, 78, 1, 98, 0]⟩, .int .u16 1, .int .u16 1, .int .u32 0, .string ⟨#[97, 98, 99, 100]⟩] 30) = W := ⟨_, rfl⟩
  have b2 : Below v2.heap.size v2 v3 := by rw [← h2]; exact below_alloc1 _ _
  have s2 : v3.heap.size = w.heap.size + 1 + 1 + 1 := by rw [← h2, World.size_alloc]; rw [s1]
  have e2 : Blk v3 (w.heap.size + 1 + 1) 30 #[.string ⟨#[1, 78, 1, 98, 0]⟩, .int .u16 1, .int .u16 1, .int .u32 0, .string ⟨#[97, 98, 99, 100]⟩] := by
    have h := Blk.new v2 30 #[.string ⟨#[1, 78, 1, 98, 0]⟩, .int .u16 1, .int .u16 1, .int .u32 0, .string ⟨#[97, 98, 99, 100]⟩]
    rw [h2, s1] at h
    exact h
  rw [h2]
  clear h2
  obtain ⟨v4, h3⟩ : ∃ W, v3.alloc (.cells #[.string ⟨#[1, 109, 1, 98, 0]⟩, .int .u16 1, .int .u16 1, .int .u32 0, .string ⟨#[97, 98, 99, 100]⟩] 30) = W := ⟨_, rfl⟩
  have b3 : Below v3.heap.size v3 v4 := by rw [← h3]; exact below_alloc1 _ _
  have s3 : v4.heap.size = w.heap.size + 1 + 1 + 1 + 1 := by rw [← h3, World.size_alloc]; rw [s2]
  have e3 : Blk v4 (w.heap.size + 1 + 1 + 1) 30 #[.string ⟨#[1, 109, 1, 98, 0]⟩, .int .u16 1, .int .u16 1, .int .u32 0, .string ⟨#[97, 98, 99, 100]⟩] := by
    have h := Blk.new v3 30 #[.string ⟨#[1, 109, 1, 98, 0]⟩, .int .u16 1, .int .u16 1, .int .u32 0, .string ⟨#[97, 98, 99, 100]⟩]
    rw [h3, s2] at h
    exact h
  rw [h3]
  clear h3
  obtain ⟨v5, h4⟩ : ∃ W, v4.alloc (.cells #[.string ⟨#[1, 99, 0]⟩, .int .u16 1, .int .u16 1, .int .u32 0, .string ⟨#[97, 98, 99, 100]⟩] 30) = W := ⟨_, rfl⟩
  have b4 : Below v4.heap.size v4 v5 := by rw [← h4]; exact below_alloc1 _ _
  have s4 : v5.heap.size = w.heap.size + 1 + 1 + 1 + 1 + 1 := by rw [← h4, World.size_alloc]; rw [s3]
  have e4 : Blk v5 (w.heap.size + 1 + 1 + 1 + 1) 30 #[.string ⟨#[1, 99, 0]⟩, .int .u16 1, .int .u16 1, .int .u32 0, .string ⟨#[97, 98, 99, 100]⟩] := by
    have h := Blk.new v4 30 #[.string ⟨#[1, 99, 0]⟩, .int .u16 1, .int .u16 1, .int .u32 0, .string ⟨#[97, 98, 99, 100]⟩]
    rw [h4, s3] at h
    exact h
  rw [h4]
  clear h4
  obtain ⟨v6, h5⟩ : ∃ W, v5.alloc (.cells #[.string ⟨#[1, 97, 1, 98, 0]⟩, .int .u16 2, .int .u16 1, .int .u32 0, .string ⟨#[1, 110, 1, 98, 0]⟩, .string ⟨#[1, 99, 0]⟩, .int .u16 1, .int .u16 1, .int .u32 0, .string ⟨#[97, 98, 99, 100]⟩] 30) = W := ⟨_, rfl⟩
  have b5 : Below v5.heap.size v5 v6 := by rw [← h5]; exact below_alloc1 _ _
  have s5 : v6.heap.size = w.heap.size + 1 + 1 + 1 + 1 + 1 + 1 := by rw [← h5, World.size_alloc]; rw [s4]
  have e5 : Blk v6 (w.heap.size + 1 + 1 + 1 + 1 + 1) 30 #[.string ⟨#[1, 97, 1, 98, 0]⟩, .int .u16 2, .int .u16 1, .int .u32 0, .string ⟨#[1, 110, 1, 98, 0]⟩, .string ⟨#[1, 99, 0]⟩, .int .u16 1, .int .u16 1, .int .u32 0, .string ⟨#[97, 98, 99, 100]⟩] := by
    have h := Blk.new v5 30 #[.string ⟨#[1, 97, 1, 98, 0]⟩, .int .u16 2, .int .u16 1, .int .u32 0, .string ⟨#[1, 110, 1, 98, 0]⟩, .string ⟨#[1, 99, 0]⟩, .int .u16 1, .int .u16 1, .int .u32 0, .string ⟨#[97, 98, 99, 100]⟩]
    rw [h5, s4] at h
    exact h
  rw [h5]
  clear h5
  obtain ⟨v7, h6⟩ : ∃ W, v6.alloc (.cells #[.string ⟨#[1, 78, 1, 98, 0]⟩, .int .u16 1, .int .u16 1, .int .u32 0, .string ⟨#[97, 98, 99, 100]⟩, .string ⟨#[1, 109, 1, 98, 0]⟩, .int .u16 1, .int .u16 1, .int .u32 0, .string ⟨#[97, 98, 99, 100]⟩, .string ⟨#[1, 99, 0]⟩, .int .u16 1, .int .u16 1, .int .u32 0, .string ⟨#[97, 98, 99, 100]⟩] 30) = W := ⟨_, rfl⟩
  have b6 : Below v6.heap.size v6 v7 := by rw [← h6]; exact below_alloc1 _ _
  have s6 : v7.heap.size = w.heap.size + 1 + 1 + 1 + 1 + 1 + 1 + 1 := by rw [← h6, World.size_alloc]; rw [s5]
  have e6 : Blk v7 (w.heap.size + 1 + 1 + 1 + 1 + 1 + 1) 30 #[.string ⟨#[1, 78, 1, 98, 0]⟩, .int .u16 1, .int .u16 1, .int .u32 0, .string ⟨#[97, 98, 99, 100]⟩, .string ⟨#[1, 109, 1, 98, 0]⟩, .int .u16 1, .int .u16 1, .int .u32 0, .string ⟨#[97, 98, 99, 100]⟩, .string ⟨#[1, 99, 0]⟩, .int .u16 1, .int .u16 1, .int .u32 0, .string ⟨#[97, 98, 99, 100]⟩] := by
    have h := Blk.new v6 30 #[.string ⟨#[1, 78, 1, 98, 0]⟩, .int .u16 1, .int .u16 1, .int .u32 0, .string ⟨#[97, 98, 99, 100]⟩, .string ⟨#[1, 109, 1, 98, 0]⟩, .int .u16 1, .int .u16 1, .int .u32 0, .string ⟨#[97, 98, 99, 100]⟩, .string ⟨#[1, 99, 0]⟩, .int .u16 1, .int .u16 1, .int .u32 0, .string ⟨#[97, 98, 99, 100]⟩]
    rw [h6, s5] at h
    exact h
  rw [h6]
  clear h6
  obtain ⟨v8, h7⟩ : ∃ W, v7.alloc (.cells #[.int .u16 0, .int .u16 0, .slice none 0 0, .slice (some ⟨w.heap.size + 1 + 1 + 1 + 1, 0, none⟩) 1 1, .slice (some ⟨w.heap.size + 1 + 1 + 1 + 1 + 1, 0, none⟩) 2 2, .slice (some ⟨w.heap.size + 1 + 1 + 1 + 1 + 1 + 1, 0, none⟩) 3 3] 26) = W := ⟨_, rfl⟩
  have b7 : Below v7.heap.size v7 v8 := by rw [← h7]; exact below_alloc1 _ _
  have s7 : v8.heap.size = w.heap.size + 1 + 1 + 1 + 1 + 1 + 1 + 1 + 1 := by rw [← h7, World.size_alloc]; rw [s6]
  have e7 : Blk v8 (w.heap.size + 1 + 1 + 1 + 1 + 1 + 1 + 1) 26 #[.int .u16 0, .int .u16 0, .slice none 0 0, .slice (some ⟨w.heap.size + 1 + 1 + 1 + 1, 0, none⟩) 1 1, .slice (some ⟨w.heap.size + 1 + 1 + 1 + 1 + 1, 0, none⟩) 2 2, .slice (some ⟨w.heap.size + 1 + 1 + 1 + 1 + 1 + 1, 0, none⟩) 3 3] := by
    have h := Blk.new v7 26 #[.int .u16 0, .int .u16 0, .slice none 0 0, .slice (some ⟨w.heap.size + 1 + 1 + 1 + 1, 0, none⟩) 1 1, .slice (some ⟨w.heap.size + 1 + 1 + 1 + 1 + 1, 0, none⟩) 2 2, .slice (some ⟨w.heap.size + 1 + 1 + 1 + 1 + 1 + 1, 0, none⟩) 3 3]
    rw [h7, s6] at h
    exact h
  rw [h7]
  clear h7
  have c7 : Below v7.heap.size v7 v8 := b7
  have c6 : Below v6.heap.size v6 v8 := b6.trans (c7.mono b6.size)
  have c5 : Below v5.heap.size v5 v8 := b5.trans (c6.mono b5.size)
  have c4 : Below v4.heap.size v4 v8 := b4.trans (c5.mono b4.size)
  have c3 : Below v3.heap.size v3 v8 := b3.trans (c4.mono b3.size)
  have c2 : Below v2.heap.size v2 v8 := b2.trans (c3.mono b2.size)
  have c1 : Below v1.heap.size v1 v8 := b1.trans (c2.mono b1.size)
  have c0 : Below w.heap.size w v8 := b0.trans (c1.mono b0.size)
  have f0 := e0.below c1 e0.lt
  have f1 := e1.below c2 e1.lt
  have f2 := e2.below c3 e2.lt
  have f3 := e3.below c4 e3.lt
  have f4 := e4.below c5 e4.lt
  have f5 := e5.below c6 e5.lt
  have f6 := e6.below c7 e6.lt
  have HV := Lib.hid (And.intro c0 (And.intro f0 (And.intro f1 (And.intro f2 (And.intro e7 (And.intro (rtab_newL (xs := [out20]) f4 rfl) (And.intro (rtab_newL (xs := [in20, out20]) f5 rfl) (rtab_newL (xs := [gl20, mo20, out20]) f6 rfl))))))))
  clear b0 c0 e0 b1 c1 e1 b2 c2 e2 b3 c3 e3 b4 c4 e4 b5 c5 e5 b6 c6 e6 b7 c7 e7 f0 f1 f2 f3 f4 f5 f6 s0 s1 s2 s3 s4 s5 s6 s7
  have HIn : RowKit.Hid (∀ W, Below v8.heap.size v8 W → MRec.In ⟨0, 0, none, [], 0, some ⟨w.heap.size + 1 + 1 + 1 + 1, 0, none⟩, [out20], 1, some ⟨w.heap.size + 1 + 1 + 1 + 1 + 1, 0, none⟩, [in20, out20], 2, some ⟨w.heap.size + 1 + 1 + 1 + 1 + 1 + 1, 0, none⟩, [gl20, mo20, out20], 3⟩ W) :=
    Lib.hid (fun W hW => ⟨GTab.nil_, HV.out.2.2.2.2.2.1.below hW, HV.out.2.2.2.2.2.2.1.below hW, HV.out.2.2.2.2.2.2.2.below hW⟩)
  have hsm := small20 (some ⟨w.heap.size + 1 + 1 + 1 + 1, 0, none⟩) (some ⟨w.heap.size + 1 + 1 + 1 + 1 + 1, 0, none⟩) (some ⟨w.heap.size + 1 + 1 + 1 + 1 + 1 + 1, 0, none⟩)
  have hzb : zb20.size ≤ maxLen := by unfold maxLen; decide
  have HMSG : RowKit.Hid (∀ W, Below v8.heap.size v8 W → Calls Try.prog 11 #[.agg #[.int .u16 0, .int .u16 0, .slice none 0 0, .slice (some ⟨w.heap.size + 1 + 1 + 1 + 1, 0, none⟩) 1 1, .slice (some ⟨w.heap.size + 1 + 1 + 1 + 1 + 1, 0, none⟩) 2 2, .slice (some ⟨w.heap.size + 1 + 1 + 1 + 1 + 1 + 1, 0, none⟩) 3 3], .string ⟨#[1, 98, 0]⟩] W (fun e w' => ∃ (qA : Option Addr) (qc : Nat) (sA : Option Addr) (sc : Nat) (hA : Option Addr) (hc : Nat) (eA : Option Addr) (ec : Nat),
      e = .returned (.agg #[.int .u16 0, .int .u16 0, .slice qA 0 qc, .slice sA 0 sc, .slice hA 1 hc, .slice eA 1 ec]) ∧ RTab w' hA [in20] ∧ RTab w' eA [gl20] ∧ Below W.heap.size W w')) := Lib.hid (fun W hW => by
    have h := scrubMsg_any _ zb20 hsm hzb W (HIn.out W hW)
    dsimp only at h
    rw [left1, left2, glue1] at h
    refine Calls.mono h ?_
    rintro e w' ⟨qA, qc, sA, sc, hA, hc, eA, ec, rfl, hIn, hb⟩
    exact ⟨qA, qc, sA, sc, hA, hc, eA, ec, rfl, hIn.th, hIn.te, hb⟩)
  have HGONE : RowKit.Hid (∀ W, Below v8.heap.size v8 W → Calls Try.prog 18 #[.agg #[.int .u16 0, .int .u16 0, .slice none 0 0, .slice (some ⟨w.heap.size + 1 + 1 + 1 + 1, 0, none⟩) 1 1, .slice (some ⟨w.heap.size + 1 + 1 + 1 + 1 + 1, 0, none⟩) 2 2, .slice (some ⟨w.heap.size + 1 + 1 + 1 + 1 + 1 + 1, 0, none⟩) 3 3], .string ⟨#[1, 98, 0]⟩] W (fun e w' => e = .returned (.int .i64 4) ∧ Below W.heap.size W w')) := Lib.hid (fun W hW => by
    have h := scrubGone_any _ zb20 hsm hzb W (HIn.out W hW)
    dsimp only at h
    rw [gone1] at h
    exact h)
  have HGLUE : RowKit.Hid (∀ W, Below v8.heap.size v8 W → Calls Try.prog 14 #[.agg #[.int .u16 0, .int .u16 0, .slice none 0 0, .slice (some ⟨w.heap.size + 1 + 1 + 1 + 1, 0, none⟩) 1 1, .slice (some ⟨w.heap.size + 1 + 1 + 1 + 1 + 1, 0, none⟩) 2 2, .slice (some ⟨w.heap.size + 1 + 1 + 1 + 1 + 1 + 1, 0, none⟩) 3 3], .string ⟨#[1, 98, 0]⟩] W (fun e w' => ∃ A c, e = .returned (.slice A 1 c) ∧ RTab w' A [gl20] ∧ Below W.heap.size W w')) := Lib.hid (fun W hW => by
    have h := glue_any _ zb20 hsm hzb W (HIn.out W hW)
    dsimp only at h
    rw [glue1] at h
    refine Calls.mono h ?_
    rintro e w' ⟨A, c, rfl, h1, _, hb⟩
    exact ⟨A, c, rfl, rtab_of_sl h1, hb⟩)
  have HST1 := Lib.hid (fun W => show Calls Try.prog 16 #[.agg #[.string ⟨#[1, 99, 0]⟩, .int .u16 1, .int .u16 1, .int .u32 0, .string ⟨#[97, 98, 99, 100]⟩], .string ⟨#[0]⟩] W (fun e w' => e = .returned (.bool true) ∧ Below W.heap.size W w') from by
    have h := stays_any out20 rt20 (by unfold maxLen; decide) (by decide) (by unfold maxLen; decide) W
    rw [st_out_r] at h
    exact h)
  have HST2 := Lib.hid (fun W => show Calls Try.prog 16 #[.agg #[.string ⟨#[1, 99, 0]⟩, .int .u16 1, .int .u16 1, .int .u32 0, .string ⟨#[97, 98, 99, 100]⟩], .string ⟨#[1, 98, 0]⟩] W (fun e w' => e = .returned (.bool false) ∧ Below W.heap.size W w') from by
    have h := stays_any out20 zb20 (by unfold maxLen; decide) (by decide) (by unfold maxLen; decide) W
    rw [st_out] at h
    exact h)
  have HSAME := Lib.hid (fun (r : RRec) (A B : Option Addr) (c d : Nat) W (hA : RTab W A [r]) (hB : RTab W B [r]) => show Calls Try.prog 13 #[.slice A 1 c, .slice B 1 d] W (fun e w' => e = .returned (.bool true) ∧ Below W.heap.size W w') from sameListR_any [r] A B c d W hA hB (by simp))
  clear hsm hzb
  refine (HMSG.out _ (Below.refl _ _)).mono ?_
  rintro e w2 ⟨qA, qc, sA, sc, hA, hc, eA, ec, rfl, ht1, ht2, hb⟩
  have HT := Lib.hid (And.intro ht1 (And.intro ht2 hb))
  clear ht1 ht2 hb HMSG
  go_wp2_with (fail)
  obtain ⟨V, hV⟩ : ∃ V, w2.alloc (.cells #[.int .u16 0, .int .u16 0, .slice qA 0 qc, .slice sA 0 sc, .slice hA 1 hc, .slice eA 1 ec] 26) = V := ⟨_, rfl⟩
  have bV : Below w2.heap.size w2 V := by rw [← hV]; exact below_alloc1 _ _
  have BV := Lib.hid (show Below v8.heap.size v8 V from HT.out.2.2.trans (bV.mono HT.out.2.2.size))
  have XV := Lib.hid (show Blk V w2.heap.size 26 #[.int .u16 0, .int .u16 0, .slice qA 0 qc, .slice sA 0 sc, .slice hA 1 hc, .slice eA 1 ec] from by rw [← hV]; exact Blk.new _ _ _)
  have HTT := Lib.hid (fun W (hW : Below V.heap.size V W) => show RTab W hA [in20] ∧ RTab W eA [gl20] ∧ Below v8.heap.size v8 W from ⟨(HT.out.1.below bV).below hW, (HT.out.2.1.below bV).below hW, BV.out.trans (hW.mono BV.out.size)⟩)
  rw [hV]
  clear hV bV
  have HKA : RowKit.Hid (∀ w', Below V.heap.size V w' → w'.cell? ⟨w2.heap.size, 0, none⟩ = some (.int .u16 0) ∧ w'.cell? ⟨w2.heap.size, 1, none⟩ = some (.int .u16 0) ∧ w'.cell? ⟨w2.heap.size, 2, none⟩ = some (.slice qA 0 qc) ∧ w'.cell? ⟨w2.heap.size, 3, none⟩ = some (.slice sA 0 sc) ∧ w'.cell? ⟨w2.heap.size, 4, none⟩ = some (.slice hA 1 hc) ∧ w'.cell? ⟨w2.heap.size, 5, none⟩ = some (.slice eA 1 ec) ∧ w'.cell? ⟨w.heap.size, 0, none⟩ = some (.string ⟨#[1, 97, 1, 98, 0]⟩) ∧ w'.cell? ⟨w.heap.size, 1, none⟩ = some (.int .u16 2) ∧ w'.cell? ⟨w.heap.size, 2, none⟩ = some (.int .u16 1) ∧ w'.cell? ⟨w.heap.size, 3, none⟩ = some (.int .u32 0) ∧ w'.cell? ⟨w.heap.size, 4, none⟩ = some (.string ⟨#[1, 110, 1, 98, 0]⟩) ∧ w'.cell? ⟨w.heap.size + 1, 0, none⟩ = some (.string ⟨#[1, 99, 0]⟩) ∧ w'.cell? ⟨w.heap.size + 1, 1, none⟩ = some (.int .u16 1) ∧ w'.cell? ⟨w.heap.size + 1, 2, none⟩ = some (.int .u16 1) ∧ w'.cell? ⟨w.heap.size + 1, 3, none⟩ = some (.int .u32 0) ∧ w'.cell? ⟨w.heap.size + 1, 4, none⟩ = some (.string ⟨#[97, 98, 99, 100]⟩) ∧ w'.cell? ⟨w.heap.size + 1 + 1, 0, none⟩ = some (.string ⟨#[1, 78, 1, 98, 0]⟩) ∧ w'.cell? ⟨w.heap.size + 1 + 1, 1, none⟩ = some (.int .u16 1) ∧ w'.cell? ⟨w.heap.size + 1 + 1, 2, none⟩ = some (.int .u16 1) ∧ w'.cell? ⟨w.heap.size + 1 + 1, 3, none⟩ = some (.int .u32 0) ∧ w'.cell? ⟨w.heap.size + 1 + 1, 4, none⟩ = some (.string ⟨#[97, 98, 99, 100]⟩) ∧ w'.cell? ⟨w.heap.size + 1 + 1 + 1 + 1 + 1 + 1 + 1, 0, none⟩ = some (.int .u16 0) ∧ w'.cell? ⟨w.heap.size + 1 + 1 + 1 + 1 + 1 + 1 + 1, 1, none⟩ = some (.int .u16 0) ∧ w'.cell? ⟨w.heap.size + 1 + 1 + 1 + 1 + 1 + 1 + 1, 2, none⟩ = some (.slice none 0 0) ∧ w'.cell? ⟨w.heap.size + 1 + 1 + 1 + 1 + 1 + 1 + 1, 3, none⟩ = some (.slice (some ⟨w.heap.size + 1 + 1 + 1 + 1, 0, none⟩) 1 1) ∧ w'.cell? ⟨w.heap.size + 1 + 1 + 1 + 1 + 1 + 1 + 1, 4, none⟩ = some (.slice (some ⟨w.heap.size + 1 + 1 + 1 + 1 + 1, 0, none⟩) 2 2) ∧ w'.cell? ⟨w.heap.size + 1 + 1 + 1 + 1 + 1 + 1 + 1, 5, none⟩ = some (.slice (some ⟨w.heap.size + 1 + 1 + 1 + 1 + 1 + 1, 0, none⟩) 3 3) ∧ Below V.heap.size V w') := Lib.hid (fun w' hb => by
    have k0 := XV.out.below hb XV.out.lt
    have hb8 := BV.out.trans (hb.mono BV.out.size)
    have k1 := HV.out.2.1.below hb8 HV.out.2.1.lt
    have k2 := HV.out.2.2.1.below hb8 HV.out.2.2.1.lt
    have k3 := HV.out.2.2.2.1.below hb8 HV.out.2.2.2.1.lt
    have k4 := HV.out.2.2.2.2.1.below hb8 HV.out.2.2.2.2.1.lt
    exact ⟨k0.cell 0, k0.cell 1, k0.cell 2, k0.cell 3, k0.cell 4, k0.cell 5, k1.cell 0, k1.cell 1, k1.cell 2, k1.cell 3, k1.cell 4, k2.cell 0, k2.cell 1, k2.cell 2, k2.cell 3, k2.cell 4, k3.cell 0, k3.cell 1, k3.cell 2, k3.cell 3, k3.cell 4, k4.cell 0, k4.cell 1, k4.cell 2, k4.cell 3, k4.cell 4, k4.cell 5, hb⟩)
  have HNI := Lib.hid (fun W : World => show RTab (W.alloc (.cells #[.string ⟨#[1, 97, 1, 98, 0]⟩, .int .u16 2, .int .u16 1, .int .u32 0, .string ⟨#[1, 110, 1, 98, 0]⟩] 30)) (some ⟨W.heap.size, 0, none⟩) [in20] from rtab_new W in20 _)
  have HNG := Lib.hid (fun W : World => show RTab (W.alloc (.cells #[.string ⟨#[1, 78, 1, 98, 0]⟩, .int .u16 1, .int .u16 1, .int .u32 0, .string ⟨#[97, 98, 99, 100]⟩] 30)) (some ⟨W.heap.size, 0, none⟩) [gl20] from rtab_new W gl20 _)
  have R0 : Below V.heap.size V V := Below.refl _ _
  go_region_held3 (fun w' => w'.cell? ⟨w2.heap.size, 0, none⟩ = some (.int .u16 0) ∧ w'.cell? ⟨w2.heap.size, 1, none⟩ = some (.int .u16 0) ∧ w'.cell? ⟨w2.heap.size, 2, none⟩ = some (.slice qA 0 qc) ∧ w'.cell? ⟨w2.heap.size, 3, none⟩ = some (.slice sA 0 sc) ∧ w'.cell? ⟨w2.heap.size, 4, none⟩ = some (.slice hA 1 hc) ∧ w'.cell? ⟨w2.heap.size, 5, none⟩ = some (.slice eA 1 ec) ∧ w'.cell? ⟨w.heap.size, 0, none⟩ = some (.string ⟨#[1, 97, 1, 98, 0]⟩) ∧ w'.cell? ⟨w.heap.size, 1, none⟩ = some (.int .u16 2) ∧ w'.cell? ⟨w.heap.size, 2, none⟩ = some (.int .u16 1) ∧ w'.cell? ⟨w.heap.size, 3, none⟩ = some (.int .u32 0) ∧ w'.cell? ⟨w.heap.size, 4, none⟩ = some (.string ⟨#[1, 110, 1, 98, 0]⟩) ∧ w'.cell? ⟨w.heap.size + 1, 0, none⟩ = some (.string ⟨#[1, 99, 0]⟩) ∧ w'.cell? ⟨w.heap.size + 1, 1, none⟩ = some (.int .u16 1) ∧ w'.cell? ⟨w.heap.size + 1, 2, none⟩ = some (.int .u16 1) ∧ w'.cell? ⟨w.heap.size + 1, 3, none⟩ = some (.int .u32 0) ∧ w'.cell? ⟨w.heap.size + 1, 4, none⟩ = some (.string ⟨#[97, 98, 99, 100]⟩) ∧ w'.cell? ⟨w.heap.size + 1 + 1, 0, none⟩ = some (.string ⟨#[1, 78, 1, 98, 0]⟩) ∧ w'.cell? ⟨w.heap.size + 1 + 1, 1, none⟩ = some (.int .u16 1) ∧ w'.cell? ⟨w.heap.size + 1 + 1, 2, none⟩ = some (.int .u16 1) ∧ w'.cell? ⟨w.heap.size + 1 + 1, 3, none⟩ = some (.int .u32 0) ∧ w'.cell? ⟨w.heap.size + 1 + 1, 4, none⟩ = some (.string ⟨#[97, 98, 99, 100]⟩) ∧ w'.cell? ⟨w.heap.size + 1 + 1 + 1 + 1 + 1 + 1 + 1, 0, none⟩ = some (.int .u16 0) ∧ w'.cell? ⟨w.heap.size + 1 + 1 + 1 + 1 + 1 + 1 + 1, 1, none⟩ = some (.int .u16 0) ∧ w'.cell? ⟨w.heap.size + 1 + 1 + 1 + 1 + 1 + 1 + 1, 2, none⟩ = some (.slice none 0 0) ∧ w'.cell? ⟨w.heap.size + 1 + 1 + 1 + 1 + 1 + 1 + 1, 3, none⟩ = some (.slice (some ⟨w.heap.size + 1 + 1 + 1 + 1, 0, none⟩) 1 1) ∧ w'.cell? ⟨w.heap.size + 1 + 1 + 1 + 1 + 1 + 1 + 1, 4, none⟩ = some (.slice (some ⟨w.heap.size + 1 + 1 + 1 + 1 + 1, 0, none⟩) 2 2) ∧ w'.cell? ⟨w.heap.size + 1 + 1 + 1 + 1 + 1 + 1 + 1, 5, none⟩ = some (.slice (some ⟨w.heap.size + 1 + 1 + 1 + 1 + 1 + 1, 0, none⟩) 3 3) ∧ Below V.heap.size V w')
    (first | with_reducible assumption | with_reducible exact HKA.out _ R0 | with_reducible exact HKA.out _ R0.drew | with_reducible exact HKA.out _ (step_b2 (last28 (by assumption)) (below_alloc1 _ _)) | with_reducible exact HKA.out _ (step_b2 (last28 (by assumption)) hb9) | with_reducible exact HKA.out _ (step_b2 (last28 (by assumption)) hb8) | with_reducible exact HKA.out _ (step_b2 (last28 (by assumption)) hb7) | with_reducible exact HKA.out _ (step_b2 (last28 (by assumption)) hb6) | with_reducible exact HKA.out _ (step_b2 (last28 (by assumption)) hb5) | with_reducible exact HKA.out _ (step_b2 (last28 (by assumption)) hb4) | with_reducible exact HKA.out _ (step_b2 (last28 (by assumption)) hb3))
    (first
      | (go_at_call 13; (with_reducible refine (HSAME.out in20 hA _ _ _ _ ?_ ?_).mono ?_); (exact (HTT.out _ (last28 (by assumption))).1); (exact HNI.out _); rintro e w3 ⟨rfl, hb3⟩)
      | (go_at_call 13; (with_reducible refine (HSAME.out gl20 eA _ _ _ _ ?_ ?_).mono ?_); (exact (HTT.out _ (last28 (by assumption))).2.1); (exact HNG.out _); rintro e w4 ⟨rfl, hb4⟩)
      | (go_at_call 18; (with_reducible refine (HGONE.out _ (HTT.out _ (last28 (by assumption))).2.2).mono ?_); rintro e w5 ⟨rfl, hb5⟩)
      | (go_at_call 16; (with_reducible refine (HST1.out _).mono ?_); rintro e w6 ⟨rfl, hb6⟩)
      | (go_at_call 16; (with_reducible refine (HST2.out _).mono ?_); rintro e w7 ⟨rfl, hb7⟩)
      | (go_at_call 14; (with_reducible refine (HGLUE.out _ (HTT.out _ (last28 (by assumption))).2.2).mono ?_); rintro e wg ⟨A8, c8, rfl, ht8, hb8⟩)
      | (go_at_call 13; (with_reducible refine (HSAME.out gl20 A8 eA _ _ _ ht8 (HTT.out _ (last28 (by assumption))).2.1).mono ?_); rintro e wh ⟨rfl, hb9⟩))
  all_goals
    have hB : Below V.heap.size V _ := (last28 (by assumption))
    have hB2 := HTT.out _ hB
    have hB3 := HV.out.1.trans (hB2.2.2.mono HV.out.1.size)
    have HB3 := Lib.hid hB3
    clear hB hB2 hB3
    go_wp2_with (fail)
    go_ret
    exact ⟨rfl, HB3.out⟩
end Go.Proofs.Ythjkdpphbipgfaa
