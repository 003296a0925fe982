/- The walk of the cache's hold. Conditions: none. The walk of the cache's Get. Conditions: none. -/
import Derived.Test.YtfipacfompihkaaCaK
import Derived.Test.YtfipacfompihkaaQLow
import Derived.Deep.RegionHeld3
import Derived.Deep.DeepCutAuto
namespace Go.Proofs.Ytfipacfompihkaa
open Go.RowKit Go.Lib

theorem last10h {a b c d e f g h i j : Prop} (H : a ∧ b ∧ c ∧ d ∧ e ∧ f ∧ g ∧ h ∧ i ∧ j) : j := H.2.2.2.2.2.2.2.2.2
set_option maxRecDepth 100000 in
theorem zero_lk (w : World) : (zeroValue 110).run Try.prog w = .ok (.pointer none) w := by rfl
set_option maxRecDepth 100000 in
set_option maxHeartbeats 8000000 in
theorem hold_any {w : World} {g mb room n : Nat} {L : Nat → Prop} {V : Bs → Int → Option En} (hC : CaV w g mb room n L V) (hn : n < room) (hr : room ≤ 4096) (h : Th) (hS : STab w h.A h.xs) (hA : ∀ a, h.A = some a → 0 < h.xs.length → ¬ L a.block ∧ a.block ≠ mb) (hx : h.xs.length ≤ 64) (hsz : h.n.size ≤ maxLen) (ht : 0 ≤ h.t ∧ h.t ≤ 65535) (hl : 0 ≤ h.l ∧ h.l ≤ 4294967295) (ttl now : Int) (httl : 0 ≤ ttl ∧ ttl ≤ 4294967295) (hnow : -9223372036854775808 ≤ now ∧ now ≤ 9223372036854775807) :
    Calls Try.prog 42 #[.pointer (some ⟨g, 0, none⟩), h.found, .int .u32 ttl, .int .i64 now] w (HoldP w g mb room n L V h.en ttl now) := by
  obtain ⟨rb, T, F, h1, h2⟩ := hC
  obtain ⟨N, t, l, A, xs, c, rk, no, nm, un⟩ := h
  dsimp only at hS hA hx hsz ht hl
  dsimp only [Th.found]
  have HST := Lib.hid (fun (X : En) (hX : holds V X ttl now = false) (W : World) (hb : Below w.heap.size w W) => CaV.stay ⟨rb, T, F, h1, h2⟩ hX hb)
  have HM := Lib.hid (fun W (hW : Below w.heap.size w W) => made_any (h1.bx.below hW h1.bx.lt))
  have H := Lib.hid (And.intro h1 (And.intro h2 (And.intro hS (And.intro hx (And.intro hsz (And.intro ht (And.intro hl hn)))))))
  have HP := Lib.hid (fun W => placeOf_any N t (by unfold maxLen at hsz; omega) W)
  have HA := Lib.hid hA
  clear h1 h2 hS hA hx hsz ht hl hn
  go_enter Try.func42, Try.ntmps42
  go_wp2_with (fail)
  obtain ⟨W1, hW1⟩ : ∃ W1, w.alloc (.cells #[.string N, .int .u16 t, .int .u32 l, .slice A xs.length c, .int .u8 rk, .bool no, .bool nm] 62) = W1 := ⟨_, rfl⟩
  have H1 := Lib.hid (show Below w.heap.size w W1 ∧ Blk W1 w.heap.size 62 #[.string N, .int .u16 t, .int .u32 l, .slice A xs.length c, .int .u8 rk, .bool no, .bool nm] from by
    rw [← hW1]
    exact ⟨(Below.refl _ _).alloc (Nat.le_refl _) _, Blk.new _ _ _⟩)
  rw [hW1]
  clear hW1
  with_reducible refine (HM.out _ H1.out.1).mono ?_
  rintro e w2 ⟨rfl, rfl⟩
  by_cases h0 : ttl = 0
  · have e0 : (ttl == 0) = true := by simp [h0]
    have hno : holds V (Th.en ⟨N, t, l, A, xs, c, rk, no, nm, un⟩) ttl now = false := by unfold holds; simp [h0]
    have HN := Lib.hid (HST.out _ hno _ H1.out.1)
    clear h0 hno
    go_wp2_with (fail)
    go_ret
    exact HN.out
  have e0 : (ttl == 0) = false := by simp [h0]
  by_cases hn0 : now < 0
  · have hno : holds V (Th.en ⟨N, t, l, A, xs, c, rk, no, nm, un⟩) ttl now = false := by unfold holds; simp [hn0]
    have HN := Lib.hid (HST.out _ hno _ H1.out.1)
    clear h0 hno
    go_wp2_with (fail)
    go_ret
    exact HN.out
  by_cases hn1 : 4611686018427387904 < now
  · have hno : holds V (Th.en ⟨N, t, l, A, xs, c, rk, no, nm, un⟩) ttl now = false := by unfold holds; simp [hn1]
    have HN := Lib.hid (HST.out _ hno _ H1.out.1)
    clear h0 hno
    go_wp2_with (fail)
    go_ret
    exact HN.out
  have H0 := Lib.hid (And.intro h0 (And.intro hn0 hn1))
  clear h0
  have s0 := H1.out.2.cell 0
  have s1 := H1.out.2.cell 1
  go_wp2_with (fail)
  with_reducible refine (HP.out _).mono ?_
  rintro e w2 ⟨rfl, hb⟩
  have H2 := Lib.hid (And.intro (H1.out.1.trans (hb.mono H1.out.1.size)) (H1.out.2.below hb H1.out.2.lt))
  clear hb s0 s1
  unfold plC
  obtain ⟨FN, hFN⟩ : ∃ FN : ByteArray, (⟨(foldB N.data.toList).toArray⟩ : ByteArray) = FN := ⟨_, rfl⟩
  rw [hFN]
  have HPB := Lib.hid (show w.heap.size ≤ w2.heap.size from H2.out.1.size)
  have HFN := Lib.hid (show FN.data.toList = foldB N.data.toList from by rw [← hFN])
  clear hFN
  obtain ⟨W3, hW3⟩ : ∃ W3, w2.alloc (.cells #[.string FN, .int .u16 t] 116) = W3 := ⟨_, rfl⟩
  have H3 := Lib.hid (show Below w.heap.size w W3 ∧ Blk W3 w.heap.size 62 #[.string N, .int .u16 t, .int .u32 l, .slice A xs.length c, .int .u8 rk, .bool no, .bool nm] ∧ Blk W3 w2.heap.size 116 #[.string FN, .int .u16 t] ∧ Ca W3 g mb rb room n L T F from by
    rw [← hW3]
    have q := H2.out.1.alloc H2.out.1.size (.cells #[.string FN, .int .u16 t] 116)
    exact ⟨q, H2.out.2.alloc _, Blk.new _ _ _, H.out.1.low q⟩)
  go_wp2_with (fail)
  have hpl : w2.heap.size < W3.heap.size := H3.out.2.2.1.lt
  clear hW3 H1 H2
  have c2 := H3.out.2.2.2.map_
  have s0 := H3.out.2.2.1.cell 0
  have s1 := H3.out.2.2.1.cell 1
  have hfs : (foldB N.data.toList).length ≤ maxLen := by rw [foldB_length]; have := H.out.2.2.2.2.1; simpa using this
  have hkey := keyOf_plc FN t (by have e := HFN.out; have := congrArg List.length e; rw [foldB_length] at this; simp at this; have := H.out.2.2.2.2.1; omega) H.out.2.2.2.2.2.1
  rw [HFN.out] at hkey
  rcases hFF : F (foldB N.data.toList) t with _ | b
  case' none =>
    have hlk : ∀ q, (Instr.lookup 112 (.map (some mb)) (.agg #[.string FN, .int .u16 t]) true).run Try.prog (W3.drewN q) = .ok (.tuple #[.pointer none, .bool false]) (W3.drewN q) := fun q => by
      obtain ⟨G, m1, m2⟩ := H3.out.2.2.2.mp
      have := (m1.drewN q).lookOk plc_keyed Try.underlying112 (zero_lk _) hkey
      rw [m2 _ _ hfs H.out.2.2.2.2.2.1, hFF] at this
      exact this
    have HFF := Lib.hid hFF
    clear hkey hFF hfs
    go_quiet (fail)
    obtain ⟨W4, hW4⟩ : ∃ W4, W3.drewN nq = W4 := ⟨_, rfl⟩
    rw [hW4]
    have h34 : Below w.heap.size w W4 := by rw [← hW4]; exact below_drewN H3.out.1 nq
    have b34 : Below W3.heap.size W3 W4 := by rw [← hW4]; exact below_drewN (Below.refl _ _) nq
    have H4 := Lib.hid (show Below w.heap.size w W4 ∧ Blk W4 w.heap.size 62 #[.string N, .int .u16 t, .int .u32 l, .slice A xs.length c, .int .u8 rk, .bool no, .bool nm] ∧ Blk W4 w2.heap.size 116 #[.string FN, .int .u16 t] ∧ Ca W4 g mb rb room n L T F from
      ⟨h34, H3.out.2.1.below b34 H3.out.2.1.lt, H3.out.2.2.1.below b34 H3.out.2.2.1.lt, H.out.1.low h34⟩)
    clear h34 b34 hW4 hlk c2 s0 s1 nq
    go_wp2_with (fail)
    go_quiet (fail)
    obtain ⟨W5, hW5⟩ : ∃ W5, W4.drewN nq = W5 := ⟨_, rfl⟩
    rw [hW5]
    have b45 : Below W4.heap.size W4 W5 := by rw [← hW5]; exact below_drewN (Below.refl _ _) nq
    have H5 := Lib.hid (show Below w.heap.size w W5 ∧ Blk W5 w.heap.size 62 #[.string N, .int .u16 t, .int .u32 l, .slice A xs.length c, .int .u8 rk, .bool no, .bool nm] ∧ Blk W5 w2.heap.size 116 #[.string FN, .int .u16 t] ∧ Ca W5 g mb rb room n L T F from
      ⟨H4.out.1.trans (b45.mono H4.out.1.size), H4.out.2.1.below b45 H4.out.2.1.lt, H4.out.2.2.1.below b45 H4.out.2.2.1.lt, H4.out.2.2.2.low b45⟩)
    clear hW5 b45 H4 nq
    have c2 := H5.out.2.2.2.map_
    have c0 : W5.cell? ⟨g, 0, none⟩ = some (.int .i64 (room : Int)) := H5.out.2.2.2.bx.cell 0
    obtain ⟨m, hm, hlen⟩ : ∃ m : Nat, m ≤ n ∧ ∀ ty q, (Builtin.len_ #[112] ty #[.map (some mb)]).run Try.prog (W5.drewN q) = .ok (.int .i64 (m : Int)) (W5.drewN q) := by
      obtain ⟨G, mv, _⟩ := H5.out.2.2.2.mp
      obtain ⟨m, q1, q2⟩ := mv.len Try.underlying112
      exact ⟨m, q1, fun ty q => q2 ty _ rfl⟩
    have hmr : ¬ (room : Int) ≤ (m : Int) := by have := H.out.2.2.2.2.2.2.2; omega
    clear hm
    go_wp2_with (fail)
    go_quiet (fail)
    obtain ⟨W6, hW6⟩ : ∃ W6, W5.drewN nq = W6 := ⟨_, rfl⟩
    rw [hW6]
    have b56 : Below W5.heap.size W5 W6 := by rw [← hW6]; exact below_drewN (Below.refl _ _) nq
    have HX : RowKit.Hid (holds V (Th.en ⟨N, t, l, A, xs, c, rk, no, nm, un⟩) ttl now = true ∧ KeepK (fun i => (i < w.heap.size ∧ ¬ L i ∧ i ≠ mb)) w W6 ∧ Blk W6 w.heap.size 62 #[.string N, .int .u16 t, .int .u32 l, .slice A xs.length c, .int .u8 rk, .bool no, .bool nm] ∧ Blk W6 w2.heap.size 116 #[.string FN, .int .u16 t] ∧ ∃ F6, Ca W6 g mb rb room n L T F6 ∧ ∀ s' k', ¬ (s' = foldB N.data.toList ∧ k' = t) → F6 s' k' = F s' k') := Lib.hid
      ⟨by unfold holds; simp [Th.en, H0.out.1, H0.out.2.1, H0.out.2.2, H.out.2.1, HFF.out, keepsOut], (KeepK.of_below H5.out.1 fun i hi => hi.1).trans (KeepK.of_below b56 fun i hi => Nat.lt_of_lt_of_le hi.1 H5.out.1.size), H5.out.2.1.below b56 H5.out.2.1.lt, H5.out.2.2.1.below b56 H5.out.2.2.1.lt, F, H5.out.2.2.2.low b56, fun _ _ _ => rfl⟩
    clear hW6 b56 H5 H3 HFF c2 c0 hlen hpl nq
  case' some =>
    have hlk : ∀ q, (Instr.lookup 112 (.map (some mb)) (.agg #[.string FN, .int .u16 t]) true).run Try.prog (W3.drewN q) = .ok (.tuple #[.pointer (some ⟨b, 0, none⟩), .bool true]) (W3.drewN q) := fun q => by
      obtain ⟨G, m1, m2⟩ := H3.out.2.2.2.mp
      have := (m1.drewN q).lookOk plc_keyed Try.underlying112 (zero_lk _) hkey
      rw [m2 _ _ hfs H.out.2.2.2.2.2.1, hFF] at this
      exact this
    have HFF := Lib.hid hFF
    clear hkey hFF hfs
    go_quiet (fail)
    obtain ⟨W4, hW4⟩ : ∃ W4, W3.drewN nq = W4 := ⟨_, rfl⟩
    rw [hW4]
    have h34 : Below w.heap.size w W4 := by rw [← hW4]; exact below_drewN H3.out.1 nq
    have b34 : Below W3.heap.size W3 W4 := by rw [← hW4]; exact below_drewN (Below.refl _ _) nq
    have H4 := Lib.hid (show Below w.heap.size w W4 ∧ Blk W4 w.heap.size 62 #[.string N, .int .u16 t, .int .u32 l, .slice A xs.length c, .int .u8 rk, .bool no, .bool nm] ∧ Blk W4 w2.heap.size 116 #[.string FN, .int .u16 t] ∧ Ca W4 g mb rb room n L T F from
      ⟨h34, H3.out.2.1.below b34 H3.out.2.1.lt, H3.out.2.2.1.below b34 H3.out.2.2.1.lt, H.out.1.low h34⟩)
    clear h34 b34 hW4 hlk c2 s0 s1 nq
    have hK := H4.out.2.2.2.kn _ _ _ HFF.out
    obtain ⟨u, v, _, _, hB⟩ := H4.out.2.2.2.rg.all b hK.lb
    have hblt : b < W4.heap.size := Blk.lt hB
    have hVV : V (foldB N.data.toList) t = some (T b).h.en := by rw [H.out.2.1, HFF.out]; rfl
    obtain ⟨X, hX⟩ : ∃ X, (T b) = X := ⟨_, rfl⟩
    rw [hX] at hB hVV
    obtain ⟨⟨N2, t2, l2, A2, xs2, cc2, rk2, no2, nm2, un2⟩, pn2, pk2⟩ := X
    have HL := Lib.hid (fun W => lives_any ⟨N2, t2, l2, A2, xs2, cc2, rk2, no2, nm2, un2⟩ now W)
    dsimp only [Th.val] at HL
    have k0 : ∀ p : BelowOf W4, p.X.cell? ⟨b, 0, none⟩ = some (.string N2) := fun p => (Blk.low hB p).cell 0
    have k1 : ∀ p : BelowOf W4, p.X.cell? ⟨b, 1, none⟩ = some (.int .u16 t2) := fun p => (Blk.low hB p).cell 1
    have k2 : ∀ p : BelowOf W4, p.X.cell? ⟨b, 2, none⟩ = some (.int .u32 l2) := fun p => (Blk.low hB p).cell 2
    have k3 : ∀ p : BelowOf W4, p.X.cell? ⟨b, 3, none⟩ = some (.slice A2 xs2.length cc2) := fun p => (Blk.low hB p).cell 3
    have k4 : ∀ p : BelowOf W4, p.X.cell? ⟨b, 4, none⟩ = some (.int .u8 rk2) := fun p => (Blk.low hB p).cell 4
    have k5 : ∀ p : BelowOf W4, p.X.cell? ⟨b, 5, none⟩ = some (.bool no2) := fun p => (Blk.low hB p).cell 5
    have k6 : ∀ p : BelowOf W4, p.X.cell? ⟨b, 6, none⟩ = some (.bool nm2) := fun p => (Blk.low hB p).cell 6
    have k7 : ∀ p : BelowOf W4, p.X.cell? ⟨b, 7, none⟩ = some (.int .i64 un2) := fun p => (Blk.low hB p).cell 7
    have f4 : ∀ p : BelowOf W4, p.X.cell? ⟨w.heap.size, 4, none⟩ = some (.int .u8 rk) := fun p => (Blk.low H4.out.2.1 p).cell 4
    have HB := Lib.hid (And.intro hVV (And.intro hK hX))
    clear hVV hK hX hB
    by_cases hlv : now < un2
    case' pos =>
      have d1 : decide (now < un2) = true := by simpa using hlv
      rw [d1] at HL
      by_cases hrk : rk < rk2
      case pos =>
        have d2 : decide (rk < rk2) = true := by simpa using hrk
        have hno : holds V (Th.en ⟨N, t, l, A, xs, c, rk, no, nm, un⟩) ttl now = false := by unfold holds; simp [Th.en, HB.out.1, keepsOut, hlv, hrk]
        have HN := Lib.hid (fun W hW => HST.out _ hno W hW)
        clear hno hlv hrk
        go_wp2_with (fail)
        refine wp_region_low (by kernel_rfl) (by kernel_rfl) ?_
        repeat (refine low_step (fun K hK => ?_); go_simp; first | (refine hK _ ?_; clear hK K) | (apply Exists.intro; refine ⟨fun _ => ?_, hK _ ?_⟩; (first | (go_at_call 52; exact calls_low (HL.out _))); clear hK K))
        refine low_nil ?_
        rintro ⟨W5, hb5⟩
        dsimp only
        have HN5 := Lib.hid (HN.out _ (H4.out.1.trans (hb5.mono H4.out.1.size)))
        clear hb5 k0 k1 k2 k3 k4 k5 k6 k7 f4
        go_wp2_with (fail)
        go_ret
        exact HN5.out
      case' neg =>
        have d2 : decide (rk < rk2) = false := by simpa using hrk
        have hyes : holds V (Th.en ⟨N, t, l, A, xs, c, rk, no, nm, un⟩) ttl now = true := by unfold holds; simp [Th.en, HB.out.1, keepsOut, hlv, hrk, H0.out.1, H0.out.2.1, H0.out.2.2]
        have HY := Lib.hid hyes
        clear hyes hlv hrk
        go_wp2_with (fail)
        refine wp_region_low (by kernel_rfl) (by kernel_rfl) ?_
        repeat (refine low_step (fun K hK => ?_); go_simp; first | (refine hK _ ?_; clear hK K) | (apply Exists.intro; refine ⟨fun _ => ?_, hK _ ?_⟩; (first | (go_at_call 52; exact calls_low (HL.out _))); clear hK K))
        refine low_nil ?_
    case' neg =>
      have d1 : decide (now < un2) = false := by simpa using hlv
      rw [d1] at HL
      have hyes : holds V (Th.en ⟨N, t, l, A, xs, c, rk, no, nm, un⟩) ttl now = true := by unfold holds; simp [Th.en, HB.out.1, keepsOut, hlv, H0.out.1, H0.out.2.1, H0.out.2.2]
      have HY := Lib.hid hyes
      clear hyes hlv
      go_wp2_with (fail)
      refine wp_region_low (by kernel_rfl) (by kernel_rfl) ?_
      repeat (refine low_step (fun K hK => ?_); go_simp; first | (refine hK _ ?_; clear hK K) | (apply Exists.intro; refine ⟨fun _ => ?_, hK _ ?_⟩; (first | (go_at_call 52; exact calls_low (HL.out _))); clear hK K))
      refine low_nil ?_
    all_goals
      rintro ⟨W5, hb5⟩
      dsimp only
      have H5 := Lib.hid (show Below w.heap.size w W5 ∧ Blk W5 w.heap.size 62 #[.string N, .int .u16 t, .int .u32 l, .slice A xs.length c, .int .u8 rk, .bool no, .bool nm] ∧ Blk W5 w2.heap.size 116 #[.string FN, .int .u16 t] ∧ Ca W5 g mb rb room n L T F from
        ⟨H4.out.1.trans (hb5.mono H4.out.1.size), H4.out.2.1.below hb5 H4.out.2.1.lt, H4.out.2.2.1.below hb5 H4.out.2.2.1.lt, H4.out.2.2.2.low hb5⟩)
      clear hb5 k0 k1 k2 k3 k4 k5 k6 k7 f4
      have HD := Lib.hid (drop_any H5.out.2.2.2 HFF.out)
      unfold at_ at HD
      go_wp2_with (fail)
      with_reducible refine HD.out.mono ?_
      rintro e W6 ⟨rfl, hca, hk6⟩
      have HX : RowKit.Hid (holds V (Th.en ⟨N, t, l, A, xs, c, rk, no, nm, un⟩) ttl now = true ∧ KeepK (fun i => (i < w.heap.size ∧ ¬ L i ∧ i ≠ mb)) w W6 ∧ Blk W6 w.heap.size 62 #[.string N, .int .u16 t, .int .u32 l, .slice A xs.length c, .int .u8 rk, .bool no, .bool nm] ∧ Blk W6 w2.heap.size 116 #[.string FN, .int .u16 t] ∧ ∃ F6, Ca W6 g mb rb room n L T F6 ∧ ∀ s' k', ¬ (s' = foldB N.data.toList ∧ k' = t) → F6 s' k' = F s' k') := Lib.hid
        ⟨HY.out, (KeepK.of_below H5.out.1 fun i hi => hi.1).trans (hk6.mono fun i hi => ⟨Nat.lt_of_lt_of_le hi.1 H5.out.1.size, hi.2⟩), H5.out.2.1.keepK hk6 ⟨H5.out.2.1.lt, fun hl => by have := H.out.1.rg.lt hl; omega, fun e => by have := H.out.1.mlt; omega⟩, H5.out.2.2.1.keepK hk6 ⟨H5.out.2.2.1.lt, fun hl => by have := H.out.1.rg.lt hl; have := HPB.out; omega, fun e => by have := H.out.1.mlt; have := HPB.out; omega⟩, _, hca, fun s' k' hn => by unfold without; rw [if_neg hn]⟩
      clear hca hk6 HD H5 H4 H3 HFF HY HB HL
  all_goals
    have s0 := HX.out.2.2.1.cell 0; have s1 := HX.out.2.2.1.cell 1; have s2 := HX.out.2.2.1.cell 2; have s3 := HX.out.2.2.1.cell 3; have s4 := HX.out.2.2.1.cell 4; have s5 := HX.out.2.2.1.cell 5; have s6 := HX.out.2.2.1.cell 6
    have p0 := HX.out.2.2.2.1.cell 0
    have p1 := HX.out.2.2.2.1.cell 1
    have hpl6 := HX.out.2.2.2.1.lt
    have hSW : STab W6 A xs := H.out.2.2.1.keep HX.out.2.1.size fun hp a ha => HX.out.2.1.block a.block ⟨by
      obtain ⟨b', off', hA', hlt', _⟩ := H.out.2.2.1 (by simpa using hp)
      rw [ha] at hA'
      injection hA' with hA'
      rw [hA']
      exact hlt', (HA.out a ha hp).1, (HA.out a ha hp).2⟩
    have HCO := Lib.hid (fun W (hW : Below W6.heap.size W6 W) => copied_any ⟨N, t, l, A, xs, c, rk, no, nm, now + ttl⟩ W (hSW.below hW) H.out.2.2.2.1)
    have R6 : Below W6.heap.size W6 W6 := Below.refl _ _
    have hw1 : IntKind.i64.wrap (now + ttl) = now + ttl := by rw [IntKind.wrap_i64]; omega
    have hw2 : IntKind.i64.wrap ttl = ttl := by rw [IntKind.wrap_i64]; omega
    have KF : RowKit.Hid (∀ w', Below W6.heap.size W6 w' → w'.cell? ⟨w.heap.size, 0, none⟩ = some (.string N) ∧ w'.cell? ⟨w.heap.size, 1, none⟩ = some (.int .u16 t) ∧ w'.cell? ⟨w.heap.size, 2, none⟩ = some (.int .u32 l) ∧ w'.cell? ⟨w.heap.size, 3, none⟩ = some (.slice A xs.length c) ∧ w'.cell? ⟨w.heap.size, 4, none⟩ = some (.int .u8 rk) ∧ w'.cell? ⟨w.heap.size, 5, none⟩ = some (.bool no) ∧ w'.cell? ⟨w.heap.size, 6, none⟩ = some (.bool nm) ∧ w'.cell? ⟨w2.heap.size, 0, none⟩ = some (.string FN) ∧ w'.cell? ⟨w2.heap.size, 1, none⟩ = some (.int .u16 t) ∧ Below W6.heap.size W6 w') := Lib.hid (fun w' hw => by
      have h1 := HX.out.2.2.1.below hw HX.out.2.2.1.lt
      have h2 := HX.out.2.2.2.1.below hw HX.out.2.2.2.1.lt
      exact ⟨h1.cell 0, h1.cell 1, h1.cell 2, h1.cell 3, h1.cell 4, h1.cell 5, h1.cell 6, h2.cell 0, h2.cell 1, hw⟩)
    clear s0 s1 s2 s3 s4 s5 s6 p0 p1
    clear hSW
    dsimp only [Th.val] at HCO
    go_wp2_with (fail)
    go_region_held3 (fun w' => w'.cell? ⟨w.heap.size, 0, none⟩ = some (.string N) ∧ w'.cell? ⟨w.heap.size, 1, none⟩ = some (.int .u16 t) ∧ w'.cell? ⟨w.heap.size, 2, none⟩ = some (.int .u32 l) ∧ w'.cell? ⟨w.heap.size, 3, none⟩ = some (.slice A xs.length c) ∧ w'.cell? ⟨w.heap.size, 4, none⟩ = some (.int .u8 rk) ∧ w'.cell? ⟨w.heap.size, 5, none⟩ = some (.bool no) ∧ w'.cell? ⟨w.heap.size, 6, none⟩ = some (.bool nm) ∧ w'.cell? ⟨w2.heap.size, 0, none⟩ = some (.string FN) ∧ w'.cell? ⟨w2.heap.size, 1, none⟩ = some (.int .u16 t) ∧ Below W6.heap.size W6 w')
      (first | with_reducible assumption | with_reducible exact KF.out _ R6.drew | with_reducible exact KF.out _ hb8 | with_reducible exact KF.out _ (hb8.alloc hb8.size _))
      (first
        | (go_at_call 54; (with_reducible refine (HCO.out _ (last10h (by assumption))).mono ?_); rintro e w7 ⟨A7, c7, rfl, hS7, hO7, hb7⟩; have hb8 : Below W6.heap.size W6 w7 := (last10h (by assumption) : Below W6.heap.size W6 _).trans (hb7.mono (last10h (by assumption) : Below W6.heap.size W6 _).size); dsimp only [Th.with_, Th.val]))
    all_goals
      have b67 : Below W6.heap.size W6 w7 := by assumption
      obtain ⟨W8, hW8⟩ : ∃ W8, w7.alloc (.cells #[.string N, .int .u16 t, .int .u32 l, .slice A7 xs.length c7, .int .u8 rk, .bool no, .bool nm, .int .i64 (now + ttl), .string FN, .int .u16 t, .pointer none, .pointer none] 122) = W8 := ⟨_, rfl⟩
      have b78 : Below w7.heap.size w7 W8 := by rw [← hW8]; exact (Below.refl _ _).alloc (Nat.le_refl _) _
      have b68 : Below W6.heap.size W6 W8 := b67.trans (b78.mono b67.size)
      have k8 : LkB W8 w7.heap.size ⟨⟨N, t, l, A7, xs, c7, rk, no, nm, now + ttl⟩, FN, t⟩ none none := by rw [← hW8]; exact Blk.new _ _ _
      have s8 : Sl W8 1 (.slice A7 xs.length c7) xs.length (xs.map Value.string) := hS7.below b78 hS7.lt
      rw [hW8]
      obtain ⟨nb, hnb⟩ : ∃ nb, w7.heap.size = nb := ⟨_, rfl⟩
      rw [hnb] at k8 ⊢
      obtain ⟨hyes, hkw, hfd, hpb, F6, hca, hff⟩ := HX.out
      have hz6 := hkw.size
      have hz7 := b67.size
      have hLw : ∀ i, L i → i < w.heap.size := fun i hi => H.out.1.rg.lt hi
      have hnL : ¬ L nb := fun hl => by have := hLw _ hl; omega
      have hca8 := hca.low b68
      have H67 := Lib.hid b67.size
      have H8 := Lib.hid (And.intro b68 (And.intro k8 (And.intro s8 (And.intro hnb (And.intro hca8 (And.intro hff (And.intro hca (And.intro hkw hyes))))))))
      have HO := Lib.hid (And.intro hO7 (fun (g' : Nat) (hg : (Value.slice A7 xs.length c7).ownBlock = some g') => hS7.lt g' hg))
      have HPL := Lib.hid (And.intro (hpb.below b68 hpb.lt) (And.intro hLw hnL))
      have HI := Lib.hid (insert_new hca8.rg hca8.lr k8 hnL)
      have c1 := hca8.ring
      unfold at_ at HI
      clear hyes hkw hfd hpb hca hff hca8 hz6 hz7 hLw hnL k8 s8 b67 b68 b78 hW8 hnb hS7 hO7 KF HCO R6 hw1 hw2
      go_wp2_with (fail)
      with_reducible refine HI.out.mono ?_
      rintro e w9 ⟨rfl, hr9, hk9⟩
      have h9 := Lib.hid (And.intro hr9 hk9)
      have hkey := keyOf_plc FN t (by have e := HFN.out; have := congrArg List.length e; rw [foldB_length] at this; simp at this; have := H.out.2.2.2.2.1; omega) H.out.2.2.2.2.2.1
      rw [HFN.out] at hkey
      have hz6 := HX.out.2.1.size
      have hz68 := H8.out.1.size
      have hmw := H.out.1.mlt
      have hgw := H.out.1.bx.lt
      have hnb6 : W6.heap.size ≤ nb := by rw [← H8.out.2.2.2.1]; exact H67.out
      have nmb : mb < W8.heap.size ∧ ¬ (L mb ∨ mb = nb) := ⟨by omega, fun h => h.elim H.out.1.ne.2.2 (fun e => by omega)⟩
      have npl : w2.heap.size < W8.heap.size ∧ ¬ (L w2.heap.size ∨ w2.heap.size = nb) := ⟨HPL.out.1.lt, fun h => h.elim (fun h => by have := HPL.out.2.1 _ h; have := HPB.out; omega) (fun e => by have := hpl6; omega)⟩
      have ng : g < W8.heap.size ∧ ¬ (L g ∨ g = nb) := ⟨by omega, fun h => h.elim H.out.1.ne.2.1 (fun e => by omega)⟩
      obtain ⟨G, m1, m2⟩ := H8.out.2.2.2.2.1.mp
      have M9 : MapV Try.prog 116 w9.drew mb n G := (m1.keepK hk9 nmb).drewN 1
      obtain ⟨w10, hup, hM10, hg10, _⟩ := M9.store plc_keyed Try.underlying112 (by have := H.out.2.2.2.2.2.2.2; unfold maxLen; omega) hkey (plK_isKey _ _) (.pointer (some ⟨nb, 0, none⟩))
      have p0 : w9.cell? ⟨w2.heap.size, 0, none⟩ = some (.string FN) := (HPL.out.1.keepK hk9 npl).cell 0
      have p1 : w9.cell? ⟨w2.heap.size, 1, none⟩ = some (.int .u16 t) := (HPL.out.1.keepK hk9 npl).cell 1
      have c2 : w9.cell? ⟨g, 2, none⟩ = some (.map (some mb)) := (H8.out.2.2.2.2.1.bx.keepK hk9 ng).cell 2
      have HE := Lib.hid (hold_end H.out.1 H.out.2.1 HFN.out H.out.2.2.2.2.1 H.out.2.2.2.2.2.1 H.out.2.2.2.2.2.2.1 H.out.2.2.2.1 (un := un) (ttl := ttl) (now := now) (by have := H0.out; omega) H8.out.2.2.2.2.2.2.2.1 H8.out.1 H8.out.2.2.2.2.1 H8.out.2.2.2.2.2.1 hnb6 H8.out.2.2.1 (fun g' hg => ⟨HO.out.1 g' hg, by rw [← H8.out.2.2.2.1]; exact HO.out.2 g' hg⟩) hr9 hk9 m2 hM10 hg10)
      clear hkey hz6 hz68 hmw hgw hnb6 nmb npl ng m1 m2 M9 hM10 hg10 hr9 hk9 c1 HI
      go_wp2_with (fail)
      first | (go_region_with (fail)) | (fail "no way")
      all_goals
        go_wp2_with (fail)
        go_ret
        unfold HoldP
        rw [H8.out.2.2.2.2.2.2.2.2]
        exact ⟨rfl, by simpa [Th.en] using HE.out.1, HE.out.2⟩
end Go.Proofs.Ytfipacfompihkaa

namespace Go.Proofs.Ytfipacfompihkaa
open Go.RowKit Go.Lib

/-- What of what is known of a place lives, and is to be believed so much. -/
def liveE (o : Option En) (least now : Int) : Option En := match o with
  | none => none
  | some y => if now < y.un ∧ ¬ y.rk < least then some y else none
/-- What is known of a name and a type. -/
def gets (V : Bs → Int → Option En) (name : ByteArray) (t least now : Int) : Option En := match liveE (V (foldB name.data.toList) t) least now with
  | some y => some y
  | none => liveE (V (foldB name.data.toList) 0) least now
def foundV (y : En) (A : Option Addr) (c : Nat) (l : Int) : Value := .agg #[.string y.n, .int .u16 y.t, .int .u32 l, .slice A y.xs.length c, .int .u8 y.rk, .bool y.no, .bool y.nm]
def noFound : Value := .agg #[.string ⟨#[]⟩, .int .u16 0, .int .u32 0, .slice none 0 0, .int .u8 0, .bool false, .bool false]
/-- What Get gives back. -/
def GotE (o : Option En) (now : Int) (w : World) (e : Ending) (w' : World) : Prop := match o with
  | none => e = .returned (.tuple #[noFound, .bool false])
  | some y => ∃ A c, e = .returned (.tuple #[foundV y A c (min (y.un - now) 604800), .bool true]) ∧ Sl w' 1 (.slice A y.xs.length c) y.xs.length (y.xs.map Value.string) ∧ ∀ g, (Value.slice A y.xs.length c).ownBlock = some g → w.heap.size ≤ g
def GetP (w : World) (g mb room n : Nat) (L : Nat → Prop) (V : Bs → Int → Option En) (name : ByteArray) (t least now : Int) (e : Ending) (w' : World) : Prop :=
  GotE (gets V name t least now) now w e w' ∧ CaV w' g mb room n L V ∧ KeepK (fun i => i < w.heap.size ∧ ¬ L i) w w'
/-- The same, with the cache's own links. -/
def GetC (w : World) (g mb rb room n : Nat) (L : Nat → Prop) (T : Nat → Lk) (F : Bs → Int → Option Nat) (V : Bs → Int → Option En) (name : ByteArray) (t least now : Int) (e : Ending) (w' : World) : Prop :=
  GotE (gets V name t least now) now w e w' ∧ Ca w' g mb rb room n L T F ∧ KeepK (fun i => i < w.heap.size ∧ ¬ L i) w w'
theorem Ca.via {w w7 w9 : World} {g mb rb room n : Nat} {L : Nat → Prop} {T : Nat → Lk} {F : Bs → Int → Option Nat} (h0 : Ca w g mb rb room n L T F) (h7 : Ca w7 g mb rb room n L T F) (hs : w7.heap.size ≤ w9.heap.size) (hk : ∀ i, i < w.heap.size → w9.heap[i]? = w7.heap[i]?) : Ca w9 g mb rb room n L T F := by
  obtain ⟨G, m1, m2⟩ := h7.mp
  refine ⟨(hk g h0.bx.lt).trans h7.bx, h7.rg.keep fun b hb => hk b (h0.rg.lt hb), h7.lr, ⟨G, m1.keep (hk mb h0.mlt), m2⟩, fun s k b hF => ?_, h7.ne⟩
  have h := h7.kn s k b hF
  have o := h0.kn s k b hF
  exact ⟨h.lb, h.nr, h.pn, h.pk, h.sl, h.kk, h.ok, h.ta.keep hs fun _ a ha => hk a.block (o.ap a ha).2.2, fun a ha => ⟨(h.ap a ha).1, (h.ap a ha).2.1, Nat.lt_of_lt_of_le (h.ap a ha).2.2 hs⟩⟩
theorem blk7 {w : World} {g : Nat} {t : TypeId} {a0 a1 a2 a3 a4 a5 a6 : Value} (h : Blk w g t #[a0, a1, a2, a3, a4, a5, a6]) (b0 b1 b2 b3 b4 b5 b6 : Value) :
    Blk (((((((w.setCell ⟨g, 0, none⟩ b0).setCell ⟨g, 1, none⟩ b1).setCell ⟨g, 2, none⟩ b2).setCell ⟨g, 3, none⟩ b3).setCell ⟨g, 4, none⟩ b4).setCell ⟨g, 5, none⟩ b5).setCell ⟨g, 6, none⟩ b6) g t #[b0, b1, b2, b3, b4, b5, b6] := by
  have := ((((((h.set_ 0 b0).set_ 1 b1).set_ 2 b2).set_ 3 b3).set_ 4 b4).set_ 5 b5).set_ 6 b6
  simpa using this
/-- Seven stores into one block, and a new one: what lay elsewhere lies as it lay. -/
theorem keep7 (w : World) (g : Nat) (b0 b1 b2 b3 b4 b5 b6 : Value) (o : Obj) : (∀ i, i < w.heap.size → i ≠ g → ((((((((w.setCell ⟨g, 0, none⟩ b0).setCell ⟨g, 1, none⟩ b1).setCell ⟨g, 2, none⟩ b2).setCell ⟨g, 3, none⟩ b3).setCell ⟨g, 4, none⟩ b4).setCell ⟨g, 5, none⟩ b5).setCell ⟨g, 6, none⟩ b6).alloc o).heap[i]? = w.heap[i]?) ∧
    KeepK (fun i => i < w.heap.size ∧ i ≠ g) w ((((((((w.setCell ⟨g, 0, none⟩ b0).setCell ⟨g, 1, none⟩ b1).setCell ⟨g, 2, none⟩ b2).setCell ⟨g, 3, none⟩ b3).setCell ⟨g, 4, none⟩ b4).setCell ⟨g, 5, none⟩ b5).setCell ⟨g, 6, none⟩ b6).alloc o) := by
  have k : KeepK (fun i => i < w.heap.size ∧ i ≠ g) w ((((((((w.setCell ⟨g, 0, none⟩ b0).setCell ⟨g, 1, none⟩ b1).setCell ⟨g, 2, none⟩ b2).setCell ⟨g, 3, none⟩ b3).setCell ⟨g, 4, none⟩ b4).setCell ⟨g, 5, none⟩ b5).setCell ⟨g, 6, none⟩ b6).alloc o) :=
    (((((((((KeepK.refl _ w).setCell (p := ⟨g, 0, none⟩) (fun i hi => hi.2) b0).setCell (p := ⟨g, 1, none⟩) (fun i hi => hi.2) b1).setCell (p := ⟨g, 2, none⟩) (fun i hi => hi.2) b2).setCell (p := ⟨g, 3, none⟩) (fun i hi => hi.2) b3).setCell (p := ⟨g, 4, none⟩) (fun i hi => hi.2) b4).setCell (p := ⟨g, 5, none⟩) (fun i hi => hi.2) b5).setCell (p := ⟨g, 6, none⟩) (fun i hi => hi.2) b6).alloc (fun i hi => by simpa [World.setCell] using hi.1) o)
  exact ⟨fun i h1 h2 => k.block i ⟨h1, h2⟩, k⟩
theorem gets_first {V : Bs → Int → Option En} {name : ByteArray} {t least now : Int} {y : En} (h : liveE (V (foldB name.data.toList) t) least now = some y) : gets V name t least now = some y := by unfold gets; rw [h]
theorem gets_then {V : Bs → Int → Option En} {name : ByteArray} {t least now : Int} (h : liveE (V (foldB name.data.toList) t) least now = none) : gets V name t least now = liveE (V (foldB name.data.toList) 0) least now := by unfold gets; rw [h]
set_option maxRecDepth 100000 in
set_option maxHeartbeats 8000000 in
theorem get_ca {w : World} {g mb rb room n : Nat} {L : Nat → Prop} {T : Nat → Lk} {F : Bs → Int → Option Nat} {V : Bs → Int → Option En} (h1 : Ca w g mb rb room n L T F) (h2 : ∀ s k, V s k = (F s k).map fun b => (T b).h.en) (N : ByteArray) (hN : N.size ≤ maxLen) (t least now : Int) (ht : 0 ≤ t ∧ t ≤ 65535) (hnow : 0 ≤ now ∧ now ≤ 4611686018427387904) :
    Calls Try.prog 22 #[.pointer (some ⟨g, 0, none⟩), .string N, .int .u16 t, .int .u8 least, .int .i64 now] w (GetC w g mb rb room n L T F V N t least now) := by
  have H := Lib.hid (And.intro h1 (And.intro h2 (And.intro hN (And.intro ht hnow))))
  have HM := Lib.hid (fun W (hW : Below w.heap.size w W) => made_any (h1.bx.below hW h1.bx.lt))
  obtain ⟨FN, hFN⟩ : ∃ FN : ByteArray, (⟨(foldB N.data.toList).toArray⟩ : ByteArray) = FN := ⟨_, rfl⟩
  have HP := Lib.hid (fun k W => placeOf_any N k (by unfold maxLen at hN; omega) W)
  unfold plC at HP
  rw [hFN] at HP
  have HFN := Lib.hid (show FN.data.toList = foldB N.data.toList from by rw [← hFN])
  have hn0 : ¬ now < 0 := by omega
  have hn1 : now ≤ 4611686018427387904 := hnow.2
  clear h1 h2 hN ht hnow hFN
  go_enter Try.func22, Try.ntmps22
  go_wp2_with (fail)
  obtain ⟨W1, hW1⟩ : ∃ W1, w.alloc (.cells #[.string ⟨#[]⟩, .int .u16 0, .int .u32 0, .slice none 0 0, .int .u8 0, .bool false, .bool false] 62) = W1 := ⟨_, rfl⟩
  have H1 := Lib.hid (show Below w.heap.size w W1 ∧ Blk W1 w.heap.size 62 #[.string ⟨#[]⟩, .int .u16 0, .int .u32 0, .slice none 0 0, .int .u8 0, .bool false, .bool false] from by
    rw [← hW1]
    exact ⟨(Below.refl _ _).alloc (Nat.le_refl _) _, Blk.new _ _ _⟩)
  rw [hW1]
  clear hW1
  with_reducible refine (HM.out _ H1.out.1).mono ?_
  rintro e w2 ⟨rfl, rfl⟩
  go_wp2_with (fail)
  go_loopg [13, 14, 15, 16, 27] 2 (fun gg v13 v14 v15 v16 v27 wr => ∃ i : Nat, v27 = .int .i64 (i : Int) ∧ Aside (i ≤ 2 ∧ gg + i = 2) ∧ Aside (1 ≤ i → liveE (V (foldB N.data.toList) t) least now = none) ∧ Aside (2 ≤ i → liveE (V (foldB N.data.toList) 0) least now = none) ∧ Aside (Below w.heap.size w wr ∧ Blk wr w.heap.size 62 #[.string ⟨#[]⟩, .int .u16 0, .int .u32 0, .slice none 0 0, .int .u8 0, .bool false, .bool false]))
  case atStart => exact ⟨0, rfl, ⟨by omega, rfl⟩, (fun h => absurd h (by omega)), (fun h => absurd h (by omega)), H1.out⟩
  case round =>
    obtain ⟨i, rfl, hi, hq1, hq2, hB⟩ := hrel
    by_cases hlt : i < 2
    · obtain ⟨k, hk, hkk⟩ : ∃ k : Int, (0 ≤ k ∧ k ≤ 65535) ∧ ((i = 0 ∧ k = t) ∨ (i = 1 ∧ k = 0)) := by
        have : i = 0 ∨ i = 1 := by omega
        rcases this with h | h
        · exact ⟨t, H.out.2.2.2.1, .inl ⟨h, rfl⟩⟩
        · exact ⟨0, by omega, .inr ⟨h, rfl⟩⟩
      have hltI : (i : Int) < 2 := by omega
      have hidx : ∀ W, (Instr.index 109 (.agg #[.int .u16 t, .int .u16 0]) (.int .i64 (i : Int))).run Try.prog W = .ok (.int .u16 k) W := fun W => by
        rcases hkk with ⟨rfl, rfl⟩ | ⟨rfl, rfl⟩ <;> rfl
      have hbw := hB.out.1
      have hca := H.out.1.low hbw
      have hpr := hB.out.2
      have hfs : (foldB N.data.toList).length ≤ maxLen := by rw [foldB_length]; have := H.out.2.2.1; simpa using this
      have hkey := keyOf_plc FN k (by have e := HFN.out; have := congrArg List.length e; rw [foldB_length] at this; simp at this; have := H.out.2.2.1; omega) hk
      rw [HFN.out] at hkey
      have c2 : ∀ p : BelowOf wr, p.X.cell? ⟨g, 2, none⟩ = some (.map (some mb)) := fun p => (hca.bx.low p).cell 2
      have HPk := Lib.hid (HP.out k)
      rcases hFF : F (foldB N.data.toList) k with _ | b
      case none =>
        have hlk : ∀ p : BelowOf wr, (Instr.lookup 112 (.map (some mb)) (.agg #[.string FN, .int .u16 k]) true).run Try.prog p.X = .ok (.tuple #[.pointer none, .bool false]) p.X := fun p => by
          obtain ⟨G, m1, m2⟩ := (hca.low p.h).mp
          have := m1.lookOk plc_keyed Try.underlying112 (zero_lk _) hkey
          rw [m2 _ _ hfs hk, hFF] at this
          exact this
        have hno : liveE (V (foldB N.data.toList) k) least now = none := by rw [H.out.2.1, hFF]; rfl
        have HNO := Lib.hid (And.intro hno (And.intro hkk (And.intro hpr hbw)))
        clear hno hkk hkey hfs hFF hca hpr hbw
        go_wp2_with (fail)
        refine wp_region_low (by kernel_rfl) (by kernel_rfl) ?_
        repeat (refine low_step (fun K hK => ?_); go_simp; first | (refine hK _ ?_; clear hK K) | (apply Exists.intro; refine ⟨fun _ => ?_, hK _ ?_⟩; (first | (go_at_call 51; exact calls_low (HPk.out _))); clear hK K))
        refine low_nil ?_
        rintro ⟨W5, hb5⟩
        dsimp only
        clear c2 hlk
        go_wp2_with (fail)
        go_roundg (2 - (i + 1))
        case measure => have := hi.out; omega
        case rel => exact ⟨i + 1, by go_num, ⟨by omega, by omega⟩, (fun _ => by
          rcases HNO.out.2.1 with ⟨h0, hk⟩ | ⟨h1, hk⟩
          · have := HNO.out.1; rw [hk] at this; exact this
          · exact hq1.out (by omega)), (fun h2 => by
          rcases HNO.out.2.1 with ⟨h0, hk⟩ | ⟨h1, hk⟩
          · omega
          · have := HNO.out.1; rw [hk] at this; exact this), HNO.out.2.2.2.trans (hb5.mono HNO.out.2.2.2.size), HNO.out.2.2.1.below hb5 HNO.out.2.2.1.lt⟩
      case some =>
        have hlk : ∀ p : BelowOf wr, (Instr.lookup 112 (.map (some mb)) (.agg #[.string FN, .int .u16 k]) true).run Try.prog p.X = .ok (.tuple #[.pointer (some ⟨b, 0, none⟩), .bool true]) p.X := fun p => by
          obtain ⟨G, m1, m2⟩ := (hca.low p.h).mp
          have := m1.lookOk plc_keyed Try.underlying112 (zero_lk _) hkey
          rw [m2 _ _ hfs hk, hFF] at this
          exact this
        have hK := hca.kn _ _ _ hFF
        obtain ⟨u, v, _, _, hBk⟩ := hca.rg.all b hK.lb
        have hVV : V (foldB N.data.toList) k = some (T b).h.en := by rw [H.out.2.1, hFF]; rfl
        obtain ⟨X, hX⟩ : ∃ X, (T b) = X := ⟨_, rfl⟩
        rw [hX] at hBk hVV hK
        obtain ⟨⟨N2, t2, l2, A2, xs2, cc2, rk2, no2, nm2, un2⟩, pn2, pk2⟩ := X
        have HL := Lib.hid (fun W => lives_any ⟨N2, t2, l2, A2, xs2, cc2, rk2, no2, nm2, un2⟩ now W)
        dsimp only [Th.val] at HL
        have HK := Lib.hid (And.intro hK (And.intro hBk (And.intro hX (And.intro hVV (And.intro hkk (And.intro hpr hbw))))))
        clear hkk hkey hfs hFF hca hpr hbw hK hBk hX hVV
        go_wp2_with (fail)
        refine wp_region_low (by kernel_rfl) (by kernel_rfl) ?_
        repeat (refine low_step (fun K hK => ?_); go_simp; first | (refine hK _ ?_; clear hK K) | (apply Exists.intro; refine ⟨fun _ => ?_, hK _ ?_⟩; (first | (go_at_call 51; exact calls_low (HPk.out _))); clear hK K))
        refine low_nil ?_
        rintro ⟨W5, hb5⟩
        dsimp only
        clear c2 hlk
        have hB5 : Blk W5 b 122 _ := Blk.below HK.out.2.1 hb5 (Blk.lt HK.out.2.1)
        have k0 : W5.cell? ⟨b, 0, none⟩ = some (.string N2) := hB5.cell 0
        have k1 : W5.cell? ⟨b, 1, none⟩ = some (.int .u16 t2) := hB5.cell 1
        have k2 : W5.cell? ⟨b, 2, none⟩ = some (.int .u32 l2) := hB5.cell 2
        have k3 : W5.cell? ⟨b, 3, none⟩ = some (.slice A2 xs2.length cc2) := hB5.cell 3
        have k4 : W5.cell? ⟨b, 4, none⟩ = some (.int .u8 rk2) := hB5.cell 4
        have k5 : W5.cell? ⟨b, 5, none⟩ = some (.bool no2) := hB5.cell 5
        have k6 : W5.cell? ⟨b, 6, none⟩ = some (.bool nm2) := hB5.cell 6
        have k7 : W5.cell? ⟨b, 7, none⟩ = some (.int .i64 un2) := hB5.cell 7
        have HB5 := Lib.hid (And.intro hb5 hB5)
        clear hb5 hB5
        by_cases hlv : now < un2
        case neg =>
          have d1 : decide (now < un2) = false := by simpa using hlv
          rw [d1] at HL
          have hno : liveE (V (foldB N.data.toList) k) least now = none := by rw [HK.out.2.2.2.1]; simp [liveE, Th.en, hlv]
          have HNO := Lib.hid (And.intro hno HK.out.2.2.2.2)
          clear hno hlv
          go_wp2_with (fail)
          with_reducible refine (HL.out _).mono ?_
          rintro e w6 ⟨rfl, hb6⟩
          have HB6 := Lib.hid (HB5.out.1.trans (hb6.mono HB5.out.1.size))
          clear hb6 k0 k1 k2 k3 k4 k5 k6 k7
          go_wp2_with (fail)
          go_roundg (2 - (i + 1))
          case measure => have := hi.out; omega
          case rel => exact ⟨i + 1, by go_num, ⟨by omega, by omega⟩, (fun _ => by
            rcases HNO.out.2.1 with ⟨h0, hk⟩ | ⟨h1, hk⟩
            · have := HNO.out.1; rw [hk] at this; exact this
            · exact hq1.out (by omega)), (fun h2 => by
            rcases HNO.out.2.1 with ⟨h0, hk⟩ | ⟨h1, hk⟩
            · omega
            · have := HNO.out.1; rw [hk] at this; exact this), HNO.out.2.2.2.trans (HB6.out.mono HNO.out.2.2.2.size), HNO.out.2.2.1.below HB6.out HNO.out.2.2.1.lt⟩
        have d1 : decide (now < un2) = true := by simpa using hlv
        rw [d1] at HL
        by_cases hrk : rk2 < least
        case pos =>
          have hno : liveE (V (foldB N.data.toList) k) least now = none := by rw [HK.out.2.2.2.1]; simp [liveE, Th.en, hrk]
          have HNO := Lib.hid (And.intro hno HK.out.2.2.2.2)
          clear hno hlv
          go_wp2_with (fail)
          with_reducible refine (HL.out _).mono ?_
          rintro e w6 ⟨rfl, hb6⟩
          have HB6 := Lib.hid (HB5.out.1.trans (hb6.mono HB5.out.1.size))
          clear k4
          have k4 : w6.cell? ⟨b, 4, none⟩ = some (.int .u8 rk2) := (HB5.out.2.below hb6 HB5.out.2.lt).cell 4
          clear hb6 k0 k1 k2 k3 k5 k6 k7
          go_wp2_with (fail)
          go_roundg (2 - (i + 1))
          case measure => have := hi.out; omega
          case rel => exact ⟨i + 1, by go_num, ⟨by omega, by omega⟩, (fun _ => by
            rcases HNO.out.2.1 with ⟨h0, hk⟩ | ⟨h1, hk⟩
            · have := HNO.out.1; rw [hk] at this; exact this
            · exact hq1.out (by omega)), (fun h2 => by
            rcases HNO.out.2.1 with ⟨h0, hk⟩ | ⟨h1, hk⟩
            · omega
            · have := HNO.out.1; rw [hk] at this; exact this), HNO.out.2.2.2.trans (HB6.out.mono HNO.out.2.2.2.size), HNO.out.2.2.1.below HB6.out HNO.out.2.2.1.lt⟩
        have hyes : liveE (V (foldB N.data.toList) k) least now = some ⟨N2, t2, l2, xs2, rk2, no2, nm2, un2⟩ := by rw [HK.out.2.2.2.1]; simp [liveE, Th.en, hlv, hrk]
        have HY := Lib.hid hyes
        have HLV := Lib.hid hlv
        clear hyes hlv
        go_wp2_with (fail)
        with_reducible refine (HL.out _).mono ?_
        rintro e w6 ⟨rfl, hb6⟩
        have HB6 := Lib.hid (HB5.out.1.trans (hb6.mono HB5.out.1.size))
        clear k4
        have k4 : w6.cell? ⟨b, 4, none⟩ = some (.int .u8 rk2) := (HB5.out.2.below hb6 HB5.out.2.lt).cell 4
        clear hb6 k0 k1 k2 k3 k5 k6 k7
        have hca6 : Ca w6 g mb rb room n L T F := H.out.1.low (HK.out.2.2.2.2.2.2.trans (HB6.out.mono HK.out.2.2.2.2.2.2.size))
        have HU := Lib.hid (use_any hca6 HK.out.1.lb HK.out.1.nr)
        unfold at_ at HU
        clear hca6
        go_wp2_with (fail)
        with_reducible refine HU.out.mono ?_
        rintro e w7 ⟨rfl, hca7, hk7⟩
        have hz6 : w.heap.size < w6.heap.size := (HK.out.2.2.2.2.2.1.below HB6.out HK.out.2.2.2.2.2.1.lt).lt
        have hnl : ¬ L w.heap.size := fun hl => by have := H.out.1.rg.lt hl; omega
        have hpr7 : Blk w7 w.heap.size 62 #[.string ⟨#[]⟩, .int .u16 0, .int .u32 0, .slice none 0 0, .int .u8 0, .bool false, .bool false] := (HK.out.2.2.2.2.2.1.below HB6.out HK.out.2.2.2.2.2.1.lt).keepK hk7 ⟨hz6, hnl⟩
        have hkb : KeepK (fun i => i < w.heap.size ∧ ¬ L i) w w7 := ((KeepK.of_below (K := fun i => i < w.heap.size) HK.out.2.2.2.2.2.2 fun i hi => hi).trans (KeepK.of_below HB6.out fun i hi => Nat.lt_of_lt_of_le hi HK.out.2.2.2.2.2.2.size)).mono (fun i (hi : i < w.heap.size ∧ ¬ L i) => hi.1) |>.trans (hk7.mono fun i hi => ⟨by omega, hi.2⟩)
        obtain ⟨u7, v7, _, _, hB7⟩ := hca7.rg.all b HK.out.1.lb
        rw [HK.out.2.2.1] at hB7
        have hST : STab w7 A2 xs2 := HK.out.1.ta.keep (Nat.le_trans HB6.out.size hk7.size) fun _ a ha => (hk7.block a.block ⟨Nat.lt_of_lt_of_le (HK.out.1.ap a ha).2.2 HB6.out.size, (HK.out.1.ap a ha).1⟩).trans (HB6.out.block a.block (HK.out.1.ap a ha).2.2)
        have HCO := Lib.hid (copied_any ⟨N2, t2, l2, A2, xs2, cc2, rk2, no2, nm2, un2⟩ w7 hST HK.out.1.ok.x)
        dsimp only [Th.val] at HCO
        have k0 : w7.cell? ⟨b, 0, none⟩ = some (.string N2) := Blk.cell hB7 0
        have k1 : w7.cell? ⟨b, 1, none⟩ = some (.int .u16 t2) := Blk.cell hB7 1
        have k2 : w7.cell? ⟨b, 2, none⟩ = some (.int .u32 l2) := Blk.cell hB7 2
        have k3 : w7.cell? ⟨b, 3, none⟩ = some (.slice A2 xs2.length cc2) := Blk.cell hB7 3
        have k4 : w7.cell? ⟨b, 4, none⟩ = some (.int .u8 rk2) := Blk.cell hB7 4
        have k5 : w7.cell? ⟨b, 5, none⟩ = some (.bool no2) := Blk.cell hB7 5
        have k6 : w7.cell? ⟨b, 6, none⟩ = some (.bool nm2) := Blk.cell hB7 6
        have k7 : w7.cell? ⟨b, 7, none⟩ = some (.int .i64 un2) := Blk.cell hB7 7
        have H7 := Lib.hid (And.intro hca7 (And.intro hkb (And.intro hpr7 (And.intro hB7 (Nat.le_trans (Nat.le_trans HK.out.2.2.2.2.2.2.size HB6.out.size) hk7.size)))))
        have hwl := Lib.hid (Nat.lt_of_lt_of_le hz6 hk7.size)
        clear hca7 hk7 hz6 hnl hpr7 hkb hB7 hST HU k4
        have k4 : w7.cell? ⟨b, 4, none⟩ = some (.int .u8 rk2) := Blk.cell H7.out.2.2.2.1 4
        go_wp2_with (fail)
        with_reducible refine HCO.out.mono ?_
        rintro e w8 ⟨A7, c7, rfl, hS8, hO8, hb8⟩
        dsimp only [Th.with_, Th.val]
        have hfd : ∀ W, (Instr.field 120 (.agg #[.string N2, .int .u16 t2, .int .u32 l2, .slice A7 xs2.length c7, .int .u8 rk2, .bool no2, .bool nm2, .int .i64 un2]) 0).run Try.prog W = .ok (.agg #[.string N2, .int .u16 t2, .int .u32 l2, .slice A7 xs2.length c7, .int .u8 rk2, .bool no2, .bool nm2]) W := fun _ => rfl
        have k7 : w8.cell? ⟨b, 7, none⟩ = some (.int .i64 un2) := (Blk.below H7.out.2.2.2.1 hb8 (Blk.lt H7.out.2.2.2.1)).cell 7
        have hbl8 : b < w8.heap.size := Nat.lt_of_lt_of_le (Blk.lt H7.out.2.2.2.1) hb8.size
        have hpr8 := H7.out.2.2.1.below hb8 H7.out.2.2.1.lt
        have hwl8 : w.heap.size < w8.heap.size := hpr8.lt
        have r0 := hpr8.cell 0; have r1 := hpr8.cell 1; have r2 := hpr8.cell 2; have r3 := hpr8.cell 3; have r4 := hpr8.cell 4; have r5 := hpr8.cell 5; have r6 := hpr8.cell 6
        have f0 := hpr8.frozen 0; have f1 := hpr8.frozen 1; have f2 := hpr8.frozen 2; have f3 := hpr8.frozen 3; have f4 := hpr8.frozen 4; have f5 := hpr8.frozen 5; have f6 := hpr8.frozen 6
        have H8 := Lib.hid (And.intro hb8 (And.intro hS8 (And.intro hO8 hpr8)))
        have hu1 : now < un2 := HLV.out
        have hu2 : un2 ≤ 9223372036854775807 := HK.out.1.ok.un.2
        clear hb8 hS8 hO8 hpr8 HCO k0 k1 k2 k3 k4 k5 k6
        have FIN : RowKit.Hid (∀ Q : Int, Q = min (un2 - now) 604800 → ∀ W9 : World, W9 = ((((((((w8.setCell ⟨w.heap.size, 0, none⟩ (.string N2)).setCell ⟨w.heap.size, 1, none⟩ (.int .u16 t2)).setCell ⟨w.heap.size, 2, none⟩ (.int .u32 Q)).setCell ⟨w.heap.size, 3, none⟩ (.slice A7 xs2.length c7)).setCell ⟨w.heap.size, 4, none⟩ (.int .u8 rk2)).setCell ⟨w.heap.size, 5, none⟩ (.bool no2)).setCell ⟨w.heap.size, 6, none⟩ (.bool nm2)).alloc (.cells #[.string N2, .int .u16 t2, .int .u32 Q, .slice A7 xs2.length c7, .int .u8 rk2, .bool no2, .bool nm2] 62)) → Blk W9 w.heap.size 62 #[.string N2, .int .u16 t2, .int .u32 Q, .slice A7 xs2.length c7, .int .u8 rk2, .bool no2, .bool nm2] ∧ GetC w g mb rb room n L T F V N t least now (.returned (.tuple #[.agg #[.string N2, .int .u16 t2, .int .u32 Q, .slice A7 xs2.length c7, .int .u8 rk2, .bool no2, .bool nm2], .bool true])) W9) := Lib.hid (fun Q hQ W9 hW9 => by
          have hk := keep7 w8 w.heap.size (.string N2) (.int .u16 t2) (.int .u32 Q) (.slice A7 xs2.length c7) (.int .u8 rk2) (.bool no2) (.bool nm2) (.cells #[.string N2, .int .u16 t2, .int .u32 Q, .slice A7 xs2.length c7, .int .u8 rk2, .bool no2, .bool nm2] 62)
          rw [← hW9] at hk
          have hz7 := H7.out.2.2.2.2
          have hz8 := H8.out.1.size
          have hB9 : Blk W9 w.heap.size 62 #[.string N2, .int .u16 t2, .int .u32 Q, .slice A7 xs2.length c7, .int .u8 rk2, .bool no2, .bool nm2] := by
            rw [hW9]
            exact (blk7 H8.out.2.2.2 _ _ _ _ _ _ _).alloc _
          have hs9 : w8.heap.size ≤ W9.heap.size := hk.2.size
          refine ⟨hB9, ?_, H.out.1.via H7.out.1 (by omega) (fun i hi => (hk.1 i (by omega) (by omega)).trans (H8.out.1.block i (by omega))), (H7.out.2.1.trans (KeepK.of_below H8.out.1 fun i hi => by have := hi.1; omega)).trans (hk.2.mono fun i hi => ⟨by have := hi.1; omega, by have := hi.1; omega⟩)⟩
          rw [show gets V N t least now = some ⟨N2, t2, l2, xs2, rk2, no2, nm2, un2⟩ from by
            rcases HK.out.2.2.2.2.1 with ⟨_, hk⟩ | ⟨h1, hk⟩
            · have := HY.out; rw [hk] at this; exact gets_first this
            · have := HY.out; rw [hk] at this; exact (gets_then (hq1.out (by omega))).trans this]
          exact ⟨A7, c7, by rw [← hQ]; rfl, H8.out.2.1.keepK hk.2 fun g' hg => ⟨H8.out.2.1.lt g' hg, by have := H8.out.2.2.1 g' hg; have := hwl.out; omega⟩, fun g' hg => by have := H8.out.2.2.1 g' hg; omega⟩)
        have hsp : un2 - now ≤ 604800 ∨ 604800 < un2 - now := by omega
        rcases hsp with hsp | hsp
        · go_wp2_with (fail)
          obtain ⟨W9, hW9⟩ : ∃ W9, W9 = ((((((((w8.setCell ⟨w.heap.size, 0, none⟩ (.string N2)).setCell ⟨w.heap.size, 1, none⟩ (.int .u16 t2)).setCell ⟨w.heap.size, 2, none⟩ (.int .u32 (un2 - now))).setCell ⟨w.heap.size, 3, none⟩ (.slice A7 xs2.length c7)).setCell ⟨w.heap.size, 4, none⟩ (.int .u8 rk2)).setCell ⟨w.heap.size, 5, none⟩ (.bool no2)).setCell ⟨w.heap.size, 6, none⟩ (.bool nm2)).alloc (.cells #[.string N2, .int .u16 t2, .int .u32 (un2 - now), .slice A7 xs2.length c7, .int .u8 rk2, .bool no2, .bool nm2] 62)) := ⟨_, rfl⟩
          obtain ⟨hB9, hG9⟩ := FIN.out (un2 - now) (by omega) W9 hW9
          clear r0 r1 r2 r3 r4 r5 r6 f0 f1 f2 f3 f4 f5 f6
          rw [← hW9]
          have r0 := hB9.cell 0; have r1 := hB9.cell 1; have r2 := hB9.cell 2; have r3 := hB9.cell 3; have r4 := hB9.cell 4; have r5 := hB9.cell 5; have r6 := hB9.cell 6
          exact bodyPost_ret (v := .tuple #[.agg #[.string N2, .int .u16 t2, .int .u32 (un2 - now), .slice A7 xs2.length c7, .int .u8 rk2, .bool no2, .bool nm2], .bool true]) (by simp [results, Try.results22, go_sem, r0, r1, r2, r3, r4, r5, r6]) rfl hG9
        · go_wp2_with (fail)
          obtain ⟨W9, hW9⟩ : ∃ W9, W9 = ((((((((w8.setCell ⟨w.heap.size, 0, none⟩ (.string N2)).setCell ⟨w.heap.size, 1, none⟩ (.int .u16 t2)).setCell ⟨w.heap.size, 2, none⟩ (.int .u32 604800)).setCell ⟨w.heap.size, 3, none⟩ (.slice A7 xs2.length c7)).setCell ⟨w.heap.size, 4, none⟩ (.int .u8 rk2)).setCell ⟨w.heap.size, 5, none⟩ (.bool no2)).setCell ⟨w.heap.size, 6, none⟩ (.bool nm2)).alloc (.cells #[.string N2, .int .u16 t2, .int .u32 604800, .slice A7 xs2.length c7, .int .u8 rk2, .bool no2, .bool nm2] 62)) := ⟨_, rfl⟩
          obtain ⟨hB9, hG9⟩ := FIN.out 604800 (by omega) W9 hW9
          clear r0 r1 r2 r3 r4 r5 r6 f0 f1 f2 f3 f4 f5 f6
          rw [← hW9]
          have r0 := hB9.cell 0; have r1 := hB9.cell 1; have r2 := hB9.cell 2; have r3 := hB9.cell 3; have r4 := hB9.cell 4; have r5 := hB9.cell 5; have r6 := hB9.cell 6
          exact bodyPost_ret (v := .tuple #[.agg #[.string N2, .int .u16 t2, .int .u32 604800, .slice A7 xs2.length c7, .int .u8 rk2, .bool no2, .bool nm2], .bool true]) (by simp [results, Try.results22, go_sem, r0, r1, r2, r3, r4, r5, r6]) rfl hG9
    · have hltI : ¬ (i : Int) < 2 := by omega
      have hi2 : i = 2 := by have := hi.out; omega
      have r0 := hB.out.2.cell 0; have r1 := hB.out.2.cell 1; have r2 := hB.out.2.cell 2; have r3 := hB.out.2.cell 3; have r4 := hB.out.2.cell 4; have r5 := hB.out.2.cell 5; have r6 := hB.out.2.cell 6
      have f0 := hB.out.2.frozen 0; have f1 := hB.out.2.frozen 1; have f2 := hB.out.2.frozen 2; have f3 := hB.out.2.frozen 3; have f4 := hB.out.2.frozen 4; have f5 := hB.out.2.frozen 5; have f6 := hB.out.2.frozen 6
      have HNG := Lib.hid ((gets_then (hq1.out (by omega))).trans (hq2.out (by omega)))
      clear hi2 hlt
      go_wp2_with (fail)
      obtain ⟨W9, hW9⟩ : ∃ W9, W9 = (((((((wr.setCell ⟨w.heap.size, 0, none⟩ (.string ⟨#[]⟩)).setCell ⟨w.heap.size, 1, none⟩ (.int .u16 0)).setCell ⟨w.heap.size, 2, none⟩ (.int .u32 0)).setCell ⟨w.heap.size, 3, none⟩ (.slice none 0 0)).setCell ⟨w.heap.size, 4, none⟩ (.int .u8 0)).setCell ⟨w.heap.size, 5, none⟩ (.bool false)).setCell ⟨w.heap.size, 6, none⟩ (.bool false)) := ⟨_, rfl⟩
      have hB9 : Blk W9 w.heap.size 62 #[.string ⟨#[]⟩, .int .u16 0, .int .u32 0, .slice none 0 0, .int .u8 0, .bool false, .bool false] := by
        rw [hW9]
        exact blk7 hB.out.2 _ _ _ _ _ _ _
      have hb9 : Below w.heap.size w W9 := by
        rw [hW9]
        exact ((((((hB.out.1.setCell (p := ⟨w.heap.size, 0, none⟩) (Nat.le_refl _) _).setCell (p := ⟨w.heap.size, 1, none⟩) (Nat.le_refl _) _).setCell (p := ⟨w.heap.size, 2, none⟩) (Nat.le_refl _) _).setCell (p := ⟨w.heap.size, 3, none⟩) (Nat.le_refl _) _).setCell (p := ⟨w.heap.size, 4, none⟩) (Nat.le_refl _) _).setCell (p := ⟨w.heap.size, 5, none⟩) (Nat.le_refl _) _).setCell (p := ⟨w.heap.size, 6, none⟩) (Nat.le_refl _) _
      clear r0 r1 r2 r3 r4 r5 r6 f0 f1 f2 f3 f4 f5 f6
      rw [← hW9]
      have r0 := hB9.cell 0; have r1 := hB9.cell 1; have r2 := hB9.cell 2; have r3 := hB9.cell 3; have r4 := hB9.cell 4; have r5 := hB9.cell 5; have r6 := hB9.cell 6
      refine bodyPost_ret (v := .tuple #[.agg #[.string ⟨#[]⟩, .int .u16 0, .int .u32 0, .slice none 0 0, .int .u8 0, .bool false, .bool false], .bool false]) (by simp [results, Try.results22, go_sem, r0, r1, r2, r3, r4, r5, r6]) rfl ⟨?_, H.out.1.low hb9, KeepK.of_below hb9 fun i hi => hi.1⟩
      rw [HNG.out]
      rfl
theorem get_any {w : World} {g mb room n : Nat} {L : Nat → Prop} {V : Bs → Int → Option En} (hC : CaV w g mb room n L V) (N : ByteArray) (hN : N.size ≤ maxLen) (t least now : Int) (ht : 0 ≤ t ∧ t ≤ 65535) (hnow : 0 ≤ now ∧ now ≤ 4611686018427387904) :
    Calls Try.prog 22 #[.pointer (some ⟨g, 0, none⟩), .string N, .int .u16 t, .int .u8 least, .int .i64 now] w (GetP w g mb room n L V N t least now) := by
  obtain ⟨rb, T, F, h1, h2⟩ := hC
  exact (get_ca h1 h2 N hN t least now ht hnow).mono fun e w' ⟨a, b, c⟩ => ⟨a, ⟨rb, T, F, b, h2⟩, c⟩
end Go.Proofs.Ytfipacfompihkaa
