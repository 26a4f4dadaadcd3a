/- Lists written out in the laws, as the model lays them; the examples of layer 2 (works). -/
import Derived.Test.YthkblaodnfanfaaF3
namespace Go.Proofs.Ythkblaodnfanfaa
open Go.RowKit M

theorem canon_word {n : Nat} (h : n ≠ 0) (hn : n < 4294967296) : canon n = [n] := by
  rw [canon_pos h, Nat.mod_eq_of_lt hn, Nat.div_eq_of_lt hn, canon_zero]
theorem canon_two (a b : Nat) (ha : a < 4294967296) (hb : b ≠ 0) (hb2 : b < 4294967296) : canon (a + 4294967296 * b) = [a, b] := by
  rw [canon_pos (by omega), show (a + 4294967296 * b) % 4294967296 = a by omega, show (a + 4294967296 * b) / 4294967296 = b by omega, canon_word hb hb2]

theorem cell_new (w : World) (cs : Array Value) (t : TypeId) (j : Nat) : (w.alloc (.cells cs t)).cell? ((⟨w.heap.size, 0, none⟩ : Addr).add j) = cs[j]? := by
  rw [add_plain, cell_of_row (w.alloc (.cells cs t)) w.heap.size j _ t (0, 0) (heap_alloc_new w _)]
theorem rd_lit1 (w : World) (a : Nat) (ha : a < 4294967296) :
    Rd (w.alloc (.cells #[.int .u32 (a : Int)] 22)) (some ⟨w.heap.size, 0, none⟩) 1 1 [a] := by
  refine ⟨rfl, Nat.le_refl _, Ok.cons ha Ok.nil, fun _ => ⟨_, rfl, fun j hj => ?_⟩⟩
  rw [cell_new]
  match j, hj with
  | 0, _ => rfl
theorem rdL_lit2 (w : World) (A1 A2 : Option Addr) (n1 c1 n2 c2 : Nat) (xs ys : List Nat) (h1 : Rd w A1 n1 c1 xs) (h2 : Rd w A2 n2 c2 ys) :
    RdL (w.alloc (.cells #[.slice A1 n1 c1, .slice A2 n2 c2] 37)) (some ⟨w.heap.size, 0, none⟩) 2 2 [xs, ys] := by
  have hb : Below w.heap.size w (w.alloc (.cells #[.slice A1 n1 c1, .slice A2 n2 c2] 37)) := (Below.refl _ _).alloc (Nat.le_refl _) _
  refine ⟨rfl, Nat.le_refl _, fun j hj => ?_⟩
  match j, hj with
  | 0, _ => exact ⟨_, A1, n1, c1, rfl, by rw [cell_new]; rfl, h1.below hb⟩
  | 1, _ => exact ⟨_, A2, n2, c2, rfl, by rw [cell_new]; rfl, h2.below hb⟩
theorem rdL_lit3 (w : World) (A1 A2 A3 : Option Addr) (n1 c1 n2 c2 n3 c3 : Nat) (xs ys zs : List Nat) (h1 : Rd w A1 n1 c1 xs) (h2 : Rd w A2 n2 c2 ys) (h3 : Rd w A3 n3 c3 zs) :
    RdL (w.alloc (.cells #[.slice A1 n1 c1, .slice A2 n2 c2, .slice A3 n3 c3] 37)) (some ⟨w.heap.size, 0, none⟩) 3 3 [xs, ys, zs] := by
  have hb : Below w.heap.size w (w.alloc (.cells #[.slice A1 n1 c1, .slice A2 n2 c2, .slice A3 n3 c3] 37)) := (Below.refl _ _).alloc (Nat.le_refl _) _
  refine ⟨rfl, Nat.le_refl _, fun j hj => ?_⟩
  match j, hj with
  | 0, _ => exact ⟨_, A1, n1, c1, rfl, by rw [cell_new]; rfl, h1.below hb⟩
  | 1, _ => exact ⟨_, A2, n2, c2, rfl, by rw [cell_new]; rfl, h2.below hb⟩
  | 2, _ => exact ⟨_, A3, n3, c3, rfl, by rw [cell_new]; rfl, h3.below hb⟩
theorem few2 (xs ys : List Nat) (M : Nat) (h1 : xs.length ≤ M) (h2 : ys.length ≤ M) : Few [xs, ys] M := by
  refine ⟨by simp, fun j hj => ?_⟩
  match j, hj with
  | 0, _ => exact h1
  | 1, _ => exact h2
theorem few3 (xs ys zs : List Nat) (M : Nat) (h1 : xs.length ≤ M) (h2 : ys.length ≤ M) (h3 : zs.length ≤ M) : Few [xs, ys, zs] M := by
  refine ⟨by simp, fun j hj => ?_⟩
  match j, hj with
  | 0, _ => exact h1
  | 1, _ => exact h2
  | 2, _ => exact h3
theorem below_new (w : World) (o : Obj) : Below w.heap.size w (w.alloc o) := (Below.refl _ _).alloc (Nat.le_refl _) _

set_option maxHeartbeats 2000000 in
theorem works2 (w : World) : Calls Try.prog 36 #[] w fun e w' => e = .returned (.bool true) ∧ Below w.heap.size w w' := by
  have e1 : canon 1 = [1] := canon_word (by omega) (by omega)
  have e2 : canon 2 = [2] := canon_word (by omega) (by omega)
  have e3 : canon 3 = [3] := canon_word (by omega) (by omega)
  have e4 : canon 4294967296 = [0, 1] := canon_two 0 1 (by omega) (by omega) (by omega)
  have e6 : canon (tot [[1], [2], [3]]) = [6] := canon_word (n := 6) (by omega) (by omega)
  have E1 := Lib.hid e1
  have E2 := Lib.hid e2
  have E3 := Lib.hid e3
  have E4 := Lib.hid e4
  have E6 := Lib.hid e6
  clear e1 e2 e3 e4 e6
  go_enter Try.func36, Try.ntmps36
  go_wp2_with fail
  refine (of_any 1 _ (by omega)).mono ?_
  rintro e w1 ⟨A1, n1, c1, rfl, h1, b1⟩
  go_wp2_with fail
  refine (of_any 2 _ (by omega)).mono ?_
  rintro e w2 ⟨A2, n2, c2, rfl, h2, b2⟩
  replace h1 := h1.below b2
  rw [E1.out] at h1
  rw [E2.out] at h2
  have l1 := h1.len
  have l2 := h2.len
  simp at l1 l2
  subst l1 l2
  go_wp2_with fail
  refine (sub_any _ _ _ _ _ _ _ _ _ h1 h2 (by omega) (by omega)).mono ?_
  have hg : geB (V [1]) (V [2]) = false := by decide
  rw [hg]
  clear hg
  rintro e w3 ⟨A3, n3, c3, rfl, h3, b3⟩
  clear h3 h1 h2
  go_wp2_with fail
  refine (of_any 4294967296 _ (by omega)).mono ?_
  rintro e w4 ⟨A4, n4, c4, rfl, h4, b4⟩
  rw [E4.out] at h4
  go_wp2_with fail
  refine (same_any _ _ _ _ _ _ _ _ _ (h4.below (below_new _ _)) (rd_lit2 w4 0 1 (by omega) (by omega)) (by have := h4.len; simp at this; omega)).mono ?_
  rw [sameB_self]
  rintro e w5 ⟨rfl, d5⟩
  go_wp2_with fail
  refine (of_any 1 _ (by omega)).mono ?_
  rintro e w6 ⟨A6, n6, c6, rfl, h6, b6⟩
  go_wp2_with fail
  refine (of_any 2 _ (by omega)).mono ?_
  rintro e w7 ⟨A7, n7, c7, rfl, h7, b7⟩
  go_wp2_with fail
  refine (of_any 3 _ (by omega)).mono ?_
  rintro e w8 ⟨A8, n8, c8, rfl, h8, b8⟩
  replace h6 := (h6.below b7).below b8
  replace h7 := h7.below b8
  rw [E1.out] at h6
  rw [E2.out] at h7
  rw [E3.out] at h8
  go_wp2_with fail
  refine (addAll_any _ _ _ _ _ 1 (by omega) (rdL_lit3 _ _ _ _ _ _ _ _ _ _ _ _ _ h6 h7 h8) (few3 _ _ _ _ (by simp) (by simp) (by simp))).mono ?_
  rintro e w9 ⟨A9, n9, c9, rfl, h9, b9⟩
  rw [E6.out] at h9
  go_wp2_with fail
  refine (same_any _ _ _ _ _ _ _ _ _ (h9.below (below_new _ _)) (rd_lit1 w9 6 (by omega)) (by have := h9.len; simp at this; omega)).mono ?_
  rw [sameB_self]
  rintro e w10 ⟨rfl, d10⟩
  go_wp2
  go_ret
  have f1 := below_next (below_next (below_next b1 b2) b3) b4
  have f2 := below_next f1 (below_next (below_new _ _) d5.below)
  have f3 := below_next (below_next (below_next f2 b6) b7) b8
  have f4 := below_next f3 (below_next (below_new _ _) b9)
  exact ⟨rfl, below_next f4 (below_next (below_new _ _) d10.below)⟩
end Go.Proofs.Ythkblaodnfanfaa
