/- The walk of hosts.Print. -/
import Derived.Test.YtenmhfhnhfhooaaDoorHostL
import Derived.Test.YtenmhfhnhfhooaaDoorShJoin
namespace Go.Proofs.YtenmhfhnhfhooaaDoor
open Go.RowKit Go.Lib

/-- An address' text. -/
def printA (a : Nat) : Bs := Lib.join (numsA a 4) [46]
theorem digits_len {u : Nat} (h : u < 256) : (Lib.decDigits u).length ≤ 3 ∧ 1 ≤ (Lib.decDigits u).length := by
  have : ∀ u : Fin 256, (Lib.decDigits u.1).length ≤ 3 ∧ 1 ≤ (Lib.decDigits u.1).length := by decide +kernel
  exact this ⟨u, h⟩
theorem numsA_4 (a : Nat) : numsA a 4 = [Lib.decDigits (numA a 0), Lib.decDigits (numA a 1), Lib.decDigits (numA a 2), Lib.decDigits (numA a 3)] := rfl
theorem printA_eq (a : Nat) : printA a = Lib.decDigits (numA a 0) ++ 46 :: (Lib.decDigits (numA a 1) ++ 46 :: (Lib.decDigits (numA a 2) ++ 46 :: Lib.decDigits (numA a 3))) := by
  simp [printA, numsA_4, Lib.join]
theorem printA_len (a : Nat) : (printA a).length ≤ 15 := by
  rw [printA_eq]
  have h0 := digits_len (numA_lt a 0)
  have h1 := digits_len (numA_lt a 1)
  have h2 := digits_len (numA_lt a 2)
  have h3 := digits_len (numA_lt a 3)
  simp only [List.length_append, List.length_cons]
  omega
/-- strings.Join with a dot, at a list of texts. -/
theorem join_strs (A : Option Addr) (c n : Nat) (ls : List Bs) (hn : ls.length = n) (hp : 0 < n) (w : World) (h : Sl w 1 (.slice A n c) n (strs ls)) (hc : n ≤ c) (hN : n ≤ 1000) (hlen : (Lib.join ls [46]).length ≤ 140737488355328) :
    Calls Tryd.prog 20 #[.slice A n c, .string ⟨#[46]⟩] w fun e w' => e = .returned (.string ⟨(Lib.join ls [46]).toArray⟩) ∧ Below w.heap.size w w' := by
  subst hn
  obtain ⟨g, cap, hv, hg, _, _, hcell⟩ := h.form hp
  injection hv with hA _ hcap
  subst hA hcap
  have hmap : (ls.map fun x => (⟨x.toArray⟩ : ByteArray)).map (·.data.toList) = ls := by
    rw [List.map_map]
    conv => rhs; rw [← List.map_id ls]
    exact List.map_congr_left fun x _ => rfl
  have hj := join_many g 0 c (ls.map fun x => (⟨x.toArray⟩ : ByteArray)) ⟨#[46]⟩ w (fun j x hx => by
    rw [Nat.zero_add]
    refine hcell j _ ?_
    rw [strs_eq, List.getElem?_map, hx]; rfl) hg (by rw [List.length_map]; omega) (by rw [List.length_map]; exact hc) (by rw [hmap]; exact hlen)
  rw [hmap, List.length_map] at hj
  exact hj

set_option maxRecDepth 100000 in
set_option maxHeartbeats 4000000 in
theorem print_any (a : Nat) (ha : a ≤ 4294967295) (w : World) (htab : PowTab w) :
    Calls Tryd.prog 33 #[.int .u32 (a : Int)] w fun e w' => e = .returned (.string ⟨(printA a).toArray⟩) ∧ Below w.heap.size w w' := by
  have HN := Lib.hid (numbers_any a ha w htab)
  have HPL := Lib.hid (printA_len a)
  clear htab
  go_enter Tryd.func33, Tryd.ntmps33
  go_wp2_with (fail)
  refine HN.out.mono ?_
  rintro e w1 ⟨A, c, rfl, hsl, hown, hb⟩
  obtain ⟨A', c', hv, h4, hc⟩ := hsl.shape
  injection hv with hA _ hcap
  subst hA hcap
  have HS := Lib.hid hsl
  have HB := Lib.hid hb
  clear hsl hown hb HN
  go_wp2_with (fail)
  refine (join_strs A c 4 (numsA a 4) (numsA_length a 4) (by decide) w1 HS.out h4 (by decide) (by have := HPL.out; unfold printA at this; omega)).mono ?_
  rintro e w2 ⟨rfl, hb2⟩
  have HB2 := Lib.hid (HB.out.trans (hb2.mono HB.out.size))
  clear hb2
  go_wp2_with (fail)
  go_ret
  exact ⟨rfl, HB2.out⟩
end Go.Proofs.YtenmhfhnhfhooaaDoor
