/- Plain laws of a table of the real sums of some stamps; no program's function in sight. Conditions: none. -/
import Derived.Test.YtcphcgkbjlgkiaaKeyedPutL
import Derived.Test.YtcphcgkbjlgkiaaInts
namespace Go.Proofs.Ytcphcgkbjlgkiaa
open Go.RowKit

/-- The bytes of a stamp. -/
def bt (s : Nat) : ByteArray := ⟨(bytesL s 8).toArray⟩
theorem bt_size (s : Nat) : (bt s).size = 8 := by
  show (bytesL s 8).toArray.size = 8
  rw [List.size_toArray, bytesL_length]
theorem lowL_bts (x : Nat) : ∀ k, lowL (bytesL x k) = x % 256 ^ k
  | 0 => by simp [bytesL, lowL, Nat.mod_one]
  | k + 1 => by
    rw [bytesL_succ, lowL_snoc, lowL_bts x k, bytesL_length, byteI_toNat, Nat.pow_succ, Nat.mod_mul, Nat.mul_comm]
theorem bt_inj {s t : Nat} (hs : s < 4294967296) (ht : t < 4294967296) (h : bt s = bt t) : s = t := by
  have h1 : bytesL s 8 = bytesL t 8 := by
    have := congrArg (fun b : ByteArray => b.data.toList) h
    simpa [bt] using this
  have h2 := congrArg lowL h1
  rw [lowL_bts, lowL_bts, Nat.mod_eq_of_lt (by omega), Nat.mod_eq_of_lt (by omega)] at h2
  exact h2

structure TI (key : ByteArray) (ss : List Nat) (xs : List Entry) : Prop where
  len : xs.length ≤ ss.length
  snd : SndTo xs xs.length
  all : ∀ e ∈ xs, e.key = key ∧ ∃ s ∈ ss, e.text = bt s ∧ e.n = sumN key.data.toList (bt s).data.toList
  has : ∀ s ∈ ss, ∃ e ∈ xs, e.text = bt s
theorem TI.nil (key : ByteArray) : TI key [] [] := ⟨Nat.le_refl _, SndTo.zero _, fun e he => absurd he (by simp), fun s hs => absurd hs (by simp)⟩
theorem is_iff {k s : ByteArray} {e : Entry} : Entry.is k s e = true ↔ e.key = k ∧ e.text = s := by
  unfold Entry.is
  simp only [Bool.and_eq_true, beq_iff_eq]
  exact ⟨fun ⟨h1, h2⟩ => ⟨bytes_eq h1, bytes_eq h2⟩, fun ⟨h1, h2⟩ => ⟨by rw [h1], by rw [h2]⟩⟩
theorem TI.any {key : ByteArray} {ss : List Nat} {xs : List Entry} (h : TI key ss xs) (s : Nat) : xs.any (Entry.is key (bt s)) = true ↔ ∃ t ∈ ss, bt t = bt s := by
  rw [List.any_eq_true]
  constructor
  · rintro ⟨e, he, hp⟩
    obtain ⟨h1, h2⟩ := is_iff.1 hp
    obtain ⟨_, t, ht, h3, _⟩ := h.all e he
    exact ⟨t, ht, by rw [← h3, h2]⟩
  · rintro ⟨t, ht, hb⟩
    obtain ⟨e, he, h1⟩ := h.has t ht
    exact ⟨e, he, is_iff.2 ⟨(h.all e he).1, by rw [h1, hb]⟩⟩
theorem TI.put {key : ByteArray} {ss : List Nat} {xs : List Entry} (h : TI key ss xs) (s : Nat) (h0 : putE xs key (bt s) = 0) : TI key (ss ++ [s]) (putL xs key (bt s) (sumN key.data.toList (bt s).data.toList)) := by
  obtain ⟨hE, hA, _⟩ := putE_zero h0
  have hk := sumE_zero hE
  unfold putL
  rw [if_pos h0]
  refine ⟨by simp; exact h.len, ?_, fun e he => ?_, fun t ht => ?_⟩
  · rw [List.length_append]
    refine SndTo.succ (e := ⟨key, bt s, sumN key.data.toList (bt s).data.toList⟩) (fun j e hj he => ?_) (by simp) hk (fun i f hi hf => ?_)
    · rw [List.getElem?_append_left hj] at he
      obtain ⟨h1, h2⟩ := h.snd j e hj he
      refine ⟨h1, fun i f hi hf => ?_⟩
      rw [List.getElem?_append_left (by omega)] at hf
      exact h2 i f hi hf
    · rw [List.getElem?_append_left hi] at hf
      have := List.any_eq_false.1 hA f (List.mem_of_getElem? hf)
      simpa using this
  · rcases List.mem_append.1 he with he | he
    · obtain ⟨h1, t, ht, h2⟩ := h.all e he
      exact ⟨h1, t, by simp [ht], h2⟩
    · have : e = ⟨key, bt s, _⟩ := List.mem_singleton.1 he
      subst this
      exact ⟨rfl, s, by simp, rfl, rfl⟩
  · rcases List.mem_append.1 ht with ht | ht
    · obtain ⟨e, he, h1⟩ := h.has t ht
      exact ⟨e, by simp [he], h1⟩
    · have : t = s := List.mem_singleton.1 ht
      subst this
      exact ⟨⟨key, bt t, sumN key.data.toList (bt t).data.toList⟩, by simp, rfl⟩
theorem TI.twice {key : ByteArray} {ss : List Nat} {xs : List Entry} (h : TI key ss xs) (s : Nat) (h4 : putE xs key (bt s) = 4) (hE : sumE key.data.toList (bt s).data.toList = 0) : TI key (ss ++ [s]) xs := by
  have hA : xs.any (Entry.is key (bt s)) = true := by
    unfold putE at h4
    rw [if_neg (by rw [hE]; simp)] at h4
    by_cases h5 : xs.any (Entry.is key (bt s)) = true
    · exact h5
    · rw [if_neg h5] at h4
      split at h4 <;> cases h4
  obtain ⟨u, hu, hb⟩ := (h.any s).1 hA
  refine ⟨by have := h.len; simp; omega, h.snd, fun e he => ?_, fun t ht => ?_⟩
  · obtain ⟨h1, t, ht, h2⟩ := h.all e he
    exact ⟨h1, t, by simp [ht], h2⟩
  · rcases List.mem_append.1 ht with ht | ht
    · exact h.has t ht
    · have : t = s := List.mem_singleton.1 ht
      subst this
      obtain ⟨e, he, h1⟩ := h.has u hu
      exact ⟨e, he, by rw [h1, hb]⟩
theorem putE_cases {key : ByteArray} {xs : List Entry} {s : ByteArray} (hE : sumE key.data.toList s.data.toList = 0) (hl : xs.length < 4096) : putE xs key s = 0 ∨ putE xs key s = 4 := by
  unfold putE
  rw [if_neg (by rw [hE]; simp)]
  split
  · exact .inr rfl
  · rw [if_neg (by omega)]; exact .inl rfl
theorem TI.of {key : ByteArray} {ss : List Nat} {xs : List Entry} (h : TI key ss xs) {s : Nat} (hs : s ∈ ss) (hE : sumE key.data.toList (bt s).data.toList = 0) : ofN true xs key (bt s) = sumN key.data.toList (bt s).data.toList := by
  unfold ofN
  rw [if_pos ⟨hE, rfl⟩]
  rcases idxOf_cases (Entry.is key (bt s)) xs with ⟨_, _, h3⟩ | ⟨k, e, _, h2, h3, h4, _⟩
  · have := (h.any s).2 ⟨s, hs, rfl⟩
    rw [h3] at this; cases this
  · rw [h3]
    obtain ⟨_, t, _, h5, h6⟩ := h.all e (List.mem_of_getElem? h2)
    have h7 := (is_iff.1 h4).2
    rw [h6, ← h5, h7]
theorem TI.known {key : ByteArray} {ss : List Nat} {xs : List Entry} (h : TI key ss xs) (hss : ∀ s ∈ ss, s < 4294967296) {o : Nat} (ho : o < 4294967296) : xs.any (Entry.is key (bt o)) = decide (o ∈ ss) := by
  rw [Bool.eq_iff_iff, h.any, decide_eq_true_eq]
  exact ⟨fun ⟨t, ht, hb⟩ => by rw [← bt_inj (hss t ht) ho hb]; exact ht, fun hm => ⟨o, hm, rfl⟩⟩
theorem TI.chk {key : ByteArray} {ss : List Nat} {xs : List Entry} (h : TI key ss xs) (hl : ss.length ≤ 4096) : ChkIs xs 0 := .inl ⟨rfl, by have := h.len; omega, h.snd⟩
end Go.Proofs.Ytcphcgkbjlgkiaa
