/- The addresses of TopGlue as records, and the sets that are found of them: plain. Conditions: none. -/
import Derived.Test.YtfipacfompihkaaFindS
import Derived.Test.YtfipacfompihkaaBuildM
import Derived.Test.YtfipacfompihkaaCaP
import Derived.Test.YtfipacfompihkaaServ
import Derived.Lib.SlBytesRow
namespace Go.Proofs.Ytfipacfompihkaa
open Go.RowKit Go.Lib

/-- A number of 32 bits as four bytes. -/
def b4 (x : Nat) : ByteArray := ⟨#[UInt8.ofNat (x / 16777216), UInt8.ofNat (x / 65536), UInt8.ofNat (x / 256), UInt8.ofNat x]⟩
theorem b4_be (x : Nat) (h : x < 4294967296) : beN (b4 x).data.toList = x := by
  show ((((0 * 256 + (UInt8.ofNat (x / 16777216)).toNat) * 256 + (UInt8.ofNat (x / 65536)).toNat) * 256 + (UInt8.ofNat (x / 256)).toNat) * 256 + (UInt8.ofNat x).toNat) = x
  simp only [UInt8.toNat_ofNat']
  omega
theorem b4_ok (x : Nat) : okD 1 (b4 x).data.toList = true := rfl
theorem b4_size (x : Nat) : (b4 x).size = 4 := rfl
/-- A record of an address. -/
def rrA (n : ByteArray) (l : Int) (x : Nat) : RRec := ⟨n, 1, 1, l, b4 x⟩
def rrs (n : ByteArray) (l : Int) (xs : List Nat) : List RRec := xs.map (rrA n l)
theorem rrs_len (n : ByteArray) (l : Int) (xs : List Nat) : (rrs n l xs).length = xs.length := by simp [rrs]
theorem rrs_near (n : ByteArray) (l : Int) (xs : List Nat) : (rrs n l xs).filter (nearR 1 n) = rrs n l xs := by
  rw [List.filter_eq_self]
  intro r hr
  obtain ⟨x, _, rfl⟩ := List.mem_map.1 hr
  simp [nearR, rrA]
theorem rrs_right (n : ByteArray) (l : Int) (xs : List Nat) (hn : isName n.data.toList = true) (hl : l ≤ 2147483647) : rightL (rrs n l xs) = rrs n l xs := by
  unfold rightL
  rw [List.filter_eq_self]
  intro r hr
  obtain ⟨x, _, rfl⟩ := List.mem_map.1 hr
  have h1 : isName (rrA n l x).nb = true := hn
  have h2 : okD (rrA n l x).t (rrA n l x).db = true := b4_ok x
  unfold rightB
  rw [chkR_rest h1 h2]
  simp [rrA, hl]
theorem rrs_min (n : ByteArray) (l : Int) : ∀ xs : List Nat, xs ≠ [] → minL (rrs n l xs) = l := by
  intro xs hx
  cases xs with
  | nil => exact absurd rfl hx
  | cons x xs =>
    show (rrs n l xs).foldl (fun m x => min m x.l) l = l
    induction xs with
    | nil => rfl
    | cons y xs ih =>
      show (rrs n l xs).foldl (fun m x => min m x.l) (min l l) = l
      rw [show min l l = l by omega]
      exact ih (by simp)
/-- What sets.Find tells of them. -/
def FndP (n : ByteArray) (l : Int) (xs : List Nat) (w : World) (e : Ending) (w' : World) : Prop :=
  ∃ (ds : List ByteArray) (A : Option Addr) (c : Nat), e = .returned (.tuple #[setV n 1 l A ds c, .int .i64 0]) ∧ setOk n 1 l ds = true ∧ (∀ d ∈ ds, ∃ x ∈ xs, d = b4 x) ∧ Sl w' 1 (.slice A ds.length c) ds.length (ds.map Value.string) ∧ (∀ h, (Value.slice A ds.length c).ownBlock = some h → w.heap.size ≤ h) ∧ Below w.heap.size w w'
theorem find_rrs (n : ByteArray) (l : Int) (xs : List Nat) (A : Option Addr) (c : Nat) (w : World) (hn : isName n.data.toList = true) (hl : 0 ≤ l ∧ l ≤ 2147483647) (h0 : xs ≠ []) (h1 : xs.length ≤ 19) (hT : RTab w A (rrs n l xs)) :
    Calls Try.prog 28 #[.string n, .int .u16 1, .slice A (rrs n l xs).length c] w (FndP n l xs w) := by
  have hsz : n.size ≤ 255 := by
    have h := ((isName_iff _).1 hn).1
    have h2 : n.data.toList.length = n.size := by simp
    omega
  refine (findS_any stab_fewI n 1 A c (rrs n l xs) w hT (by rw [rrs_len]; exact h1) (by rw [rrs_len]; omega) (by omega) (fun r hr => ?_)).mono ?_
  · obtain ⟨x, _, rfl⟩ := List.mem_map.1 hr
    refine ⟨?_, ?_, ?_, ?_⟩
    · show n.size ≤ 1000000; omega
    · show (b4 x).size ≤ 1000000; rw [b4_size]; omega
    · exact hl.1
    · show l ≤ _; omega
  · intro e w' h
    have hc : chkN n.data.toList = 0 := by unfold chkN; rw [if_pos hn]
    have hne : rrs n l xs ≠ [] := by intro e; exact h0 (List.map_eq_nil_iff.1 e)
    rcases h with ⟨h, _⟩ | ⟨_, h, _⟩ | ⟨_, _, h⟩
    · exact absurd hc h
    · rw [rrs_near, rrs_right n l xs hn hl.2] at h
      exact absurd h hne
    · rw [rrs_near, rrs_right n l xs hn hl.2] at h
      obtain ⟨P, ds, Ad, cd, q1, q2, q3, q4, q5, q6, q7⟩ := h
      have hpos : 0 < (rrs n l xs).length := List.length_pos_iff.2 hne
      have hok := found_ok hpos q1 q2 q3 hn (fun r hr => by obtain ⟨x, _, rfl⟩ := List.mem_map.1 hr; exact hl.2) (fun r hr => by obtain ⟨x, _, rfl⟩ := List.mem_map.1 hr; exact b4_ok x)
      rw [rrs_min n l xs h0] at q4 hok
      refine ⟨ds, Ad, cd, q4, hok, fun d hd => ?_, q5, q6, q7⟩
      obtain ⟨r, hr, rfl⟩ := found_mem q2 q3 d hd
      obtain ⟨x, hx, rfl⟩ := List.mem_map.1 hr
      exact ⟨x, hx, rfl⟩
set_option maxRecDepth 100000 in
theorem conv4 (x : Nat) (hx : x < 4294967296) (w : World) (a b c d : Value) (ha : a = .int .u8 ((x : Int) / 16777216)) (hb : b = .int .u8 ((x : Int) / 65536 % 256)) (hc : c = .int .u8 ((x : Int) / 256 % 256)) (hd : d = .int .u8 ((x : Int) % 256)) :
    (convert 75 9 (.slice (some ⟨w.heap.size, 0, none⟩) 4 4)).run Try.prog (w.alloc (.cells #[a, b, c, d] 5)) = .ok (.string (b4 x)) (w.alloc (.cells #[a, b, c, d] 5)) := by
  refine run_convert_whole (P := Try.prog) _ 75 5 9 Try.underlying75 Try.underlying5 Try.underlying9 w.heap.size 0 (b4 x) (fun i hi => ?_) 4
  rw [Nat.zero_add, World.cell?_alloc_new]
  have hi4 : i < 4 := hi
  have h4 : i = 0 ∨ i = 1 ∨ i = 2 ∨ i = 3 := by omega
  rcases h4 with rfl | rfl | rfl | rfl
  · rw [ha]
    show some (Value.int .u8 ((x : Int) / 16777216)) = some (Value.int .u8 (((UInt8.ofNat (x / 16777216)).toNat : Nat) : Int))
    rw [UInt8.toNat_ofNat']; congr 2; omega
  · rw [hb]
    show some (Value.int .u8 ((x : Int) / 65536 % 256)) = some (Value.int .u8 (((UInt8.ofNat (x / 65536)).toNat : Nat) : Int))
    rw [UInt8.toNat_ofNat']; rfl
  · rw [hc]
    show some (Value.int .u8 ((x : Int) / 256 % 256)) = some (Value.int .u8 (((UInt8.ofNat (x / 256)).toNat : Nat) : Int))
    rw [UInt8.toNat_ofNat']; rfl
  · rw [hd]
    show some (Value.int .u8 ((x : Int) % 256)) = some (Value.int .u8 (((UInt8.ofNat x).toNat : Nat) : Int))
    rw [UInt8.toNat_ofNat']; rfl
/-- One record more. -/
theorem rr_step {w3 wr w9 : World} {n : ByteArray} {l : Int} {xs : List Nat} {k x : Nat} {Al A3 : Option Addr} {cl c3 : Nat} {o1 o2 : Obj} (hx : xs[k]? = some x) (hO : ∀ q, (Value.slice Al k cl).ownBlock = some q → w3.heap.size ≤ q) (hB : Below w3.heap.size w3 wr)
    (hs : Sl w9 5 (.slice A3 (k + 1) c3) (k + 1) (flatV RRec.vs (rrs n l (xs.take k)) ++ flatV RRec.vs [⟨n, 1, 1, l, b4 x⟩])) (hg : ((wr.alloc o1).alloc o2).grownBy w9 (Value.slice Al k cl).ownBlock) (hv : (Value.slice A3 (k + 1) c3).ownBlock = (Value.slice Al k cl).ownBlock ∨ (Value.slice A3 (k + 1) c3).ownBlock = some ((wr.alloc o1).alloc o2).heap.size) :
    Sl w9 5 (.slice A3 (k + 1) c3) (k + 1) (flatV RRec.vs (rrs n l (xs.take (k + 1)))) ∧ (∀ q, (Value.slice A3 (k + 1) c3).ownBlock = some q → w3.heap.size ≤ q) ∧ Below w3.heap.size w3 w9 := by
  have hbA : Below w3.heap.size w3 ((wr.alloc o1).alloc o2) := (hB.alloc hB.size _).alloc (by have := hB.size; simp; omega) _
  refine ⟨?_, fun q hq => ?_, hbA.grown hg hbA.size (fun g hg => hO g hg)⟩
  · have e : rrs n l (xs.take (k + 1)) = rrs n l (xs.take k) ++ [⟨n, 1, 1, l, b4 x⟩] := by
      unfold rrs
      rw [List.take_add_one, hx, List.map_append]
      rfl
    rw [e, flatV_append]
    exact hs
  · rcases hv with e | e
    · rw [e] at hq; exact hO q hq
    · rw [e] at hq; injection hq with hq; have := hbA.size; omega
/-- What stands when the answer is put. -/
def V1e (n : ByteArray) (ttl : Int) (ds : List ByteArray) : Bs → Int → Option En := withE (fun _ _ => none) (foldB n.data.toList) 1 ⟨n, 1, ttl, ds, 4, false, false, 5 + ttl⟩
theorem put1 {w : World} {g mb : Nat} {L : Nat → Prop} {n : ByteArray} {ttl : Int} {ds : List ByteArray} {e : Ending} {w' : World} (ht : 0 < ttl ∧ ttl ≤ 65535) (hok : setOk n 1 ttl ds = true) (h : PutP w g mb 9 0 L (fun _ _ => none) n 1 ttl ds 4 5 e w') :
    e = .returned (.bool true) ∧ ∃ L', CaV w' g mb 9 1 L' (V1e n ttl ds) ∧ (∀ i, L' i → L i ∨ w.heap.size ≤ i) ∧ KeepK (fun i => i < w.heap.size ∧ ¬ L i ∧ i ≠ mb) w w' := by
  rcases h with ⟨_, _, h⟩ | ⟨h, _⟩
  · have hm : min ttl 604800 = ttl := by omega
    rw [hm] at h
    have hh : holds (fun _ _ => none) (putE n 1 ttl ds 4) ttl 5 = true := by
      unfold holds
      rw [decide_eq_false (show ¬ ttl = 0 by omega)]
      rfl
    obtain ⟨h1, ⟨L', h2, h3⟩, h4⟩ := h
    rw [hh] at h1 h2
    exact ⟨h1, L', h2, h3, h4⟩
  · rcases h with h | h
    · rw [hok] at h; cases h
    · omega
theorem withE_at (V : Bs → Int → Option En) (s : Bs) (k : Int) (x : En) : withE V s k x s k = some x := by unfold withE; rw [if_pos ⟨rfl, rfl⟩]
/-- What stands when what was told beside is put behind it. -/
theorem put2 {w : World} {g mb : Nat} {L : Nat → Prop} {n : ByteArray} {ttl later : Int} {ds es : List ByteArray} {e : Ending} {w' : World} (ht : 0 < ttl ∧ ttl ≤ 65535) (hl : 0 ≤ later ∧ later ≤ 65535) (hok : setOk n 1 1048576 es = true) (h : PutP w g mb 9 1 L (V1e n ttl ds) n 1 1048576 es 1 (5 + later) e w') :
    e = .returned (.bool (!decide (later < ttl))) ∧ ∃ L' V l rk un, CaV w' g mb 9 2 L' V ∧ gets V n 1 1 (5 + later) = some ⟨n, 1, l, if later < ttl then ds else es, rk, false, false, un⟩ ∧ (∀ i, L' i → L i ∨ w.heap.size ≤ i) ∧ KeepK (fun i => i < w.heap.size ∧ ¬ L i ∧ i ≠ mb) w w' := by
  rcases h with ⟨_, _, h⟩ | ⟨h, _⟩
  · have hm : min (1048576 : Int) 604800 = 604800 := by omega
    rw [hm] at h
    have hV1 : V1e n ttl ds (foldB n.data.toList) 1 = some ⟨n, 1, ttl, ds, 4, false, false, 5 + ttl⟩ := withE_at _ _ _ _
    have hh : holds (V1e n ttl ds) (putE n 1 1048576 es 1) 604800 (5 + later) = !decide (later < ttl) := by
      unfold holds putE
      dsimp only
      rw [hV1, decide_eq_false (show ¬ 5 + later < 0 by omega), decide_eq_false (show ¬ 4611686018427387904 < 5 + later by omega)]
      unfold keepsOut
      dsimp only
      by_cases hlt : later < ttl
      · rw [decide_eq_true hlt, decide_eq_true (show 5 + later < 5 + ttl by omega)]; rfl
      · rw [decide_eq_false hlt, decide_eq_false (show ¬ 5 + later < 5 + ttl by omega)]; rfl
    obtain ⟨h1, ⟨L', h2, h3⟩, h4⟩ := h
    rw [hh] at h1 h2
    refine ⟨h1, L', ?_⟩
    by_cases hlt : later < ttl
    · rw [decide_eq_true hlt] at h2
      refine ⟨V1e n ttl ds, ttl, 4, 5 + ttl, h2, ?_, h3, h4⟩
      rw [if_pos hlt]
      refine gets_first ?_
      rw [hV1]
      unfold liveE
      dsimp only
      rw [if_pos (by omega)]
    · rw [decide_eq_false hlt] at h2
      refine ⟨withE (V1e n ttl ds) (foldB n.data.toList) 1 ⟨n, 1, 1048576, es, 1, false, false, 5 + later + 604800⟩, 1048576, 1, 5 + later + 604800, h2, ?_, h3, h4⟩
      rw [if_neg hlt]
      refine gets_first ?_
      rw [withE_at]
      unfold liveE
      dsimp only
      rw [if_pos (by omega)]
  · rcases h with h | h
    · rw [hok] at h; cases h
    · omega
/-- The set of the servers. -/
theorem ns_ok (h : ByteArray) (hn : isName h.data.toList = true) : setOk ⟨#[0]⟩ 2 9 [h] = true := by
  have h1 : okD 2 h.data.toList = true := by
    have hc := cutN_of (f := (0, 1, 0)) (a := []) (ns := [h.data.toList]) (r := []) rfl rfl rfl (by simpa using hn)
    have e : ([] : Bs) ++ ([h.data.toList].flatten ++ []) = h.data.toList := by simp
    rw [e] at hc
    have h4 := ((isName_iff _).1 hn).1
    unfold okD
    rw [decide_eq_true (show h.data.toList.length ≤ 4096 by omega), if_neg (by decide), if_neg (by decide), if_neg (by decide)]
    show (true && (cutN (0, 1, 0) h.data.toList).isSome) = true
    rw [hc]
    rfl
  unfold setOk
  simp only [List.all_cons, List.all_nil, h1]
  rfl
end Go.Proofs.Ytfipacfompihkaa
