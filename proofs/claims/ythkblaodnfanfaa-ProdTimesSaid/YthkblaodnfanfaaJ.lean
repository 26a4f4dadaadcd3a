/- The examples of layer 4 (works), walked. -/
import Derived.Test.YthkblaodnfanfaaP6
namespace Go.Proofs.Ythkblaodnfanfaa
open Go.RowKit M

theorem blen_2 : blen 2 = 2 := blen_eq (k := 1) (by decide) (by decide)
theorem pow_2_10 : powOk 2 10 = true ∧ canon (powV 2 10) = [1024] := by
  have h : powOk 2 10 = true := by
    unfold powOk
    rw [blen_2]
    decide
  refine ⟨h, ?_⟩
  unfold powV
  rw [if_pos h]
  exact canon_word (n := 1024) (by omega) (by omega)
theorem max_squared : canon (4294967295 * 4294967295) = [1, 4294967294] := canon_two 1 4294967294 (by omega) (by omega) (by omega)
theorem mul_lt {a b m n : Nat} (h : a < 4294967296 ^ m) (k : b < 4294967296 ^ n) : a * b < 4294967296 ^ (m + n) := by
  rw [Nat.pow_add]
  exact Nat.mul_lt_mul_of_lt_of_le h (Nat.le_of_lt k) (pow_pos _)

set_option maxHeartbeats 4000000 in
theorem works4 (w : World) : Calls Try.prog 63 #[] w fun e w' => e = .returned (.bool true) ∧ Below w.heap.size w w' := by
  have P1 := Lib.hid pow_2_10.1
  have P2 := Lib.hid pow_2_10.2
  have P3 := Lib.hid (powOk_neg 5 (-1) (by omega))
  have P4 := Lib.hid max_squared
  go_enter Try.func63, Try.ntmps63
  go_wp2_with fail
  refine (of_any 2 _ (by omega)).mono ?_
  rintro e w1 ⟨A1, n1, c1, rfl, h1, b1⟩
  have m1 : n1 ≤ 1 := len_canon h1 (by omega)
  go_wp2_with fail
  refine (pow_any _ _ _ _ 10 _ h1 (by omega) (by omega) (by omega)).mono ?_
  rw [V_canon, P1.out, P2.out]
  rintro e w2 ⟨A2, n2, c2, rfl, h2, b2⟩
  obtain rfl : n2 = 1 := h2.len.symm
  go_wp2_with fail
  refine (of_any 5 _ (by omega)).mono ?_
  rintro e w3 ⟨A3, n3, c3, rfl, h3, b3⟩
  have m3 : n3 ≤ 1 := len_canon h3 (by omega)
  go_wp2_with fail
  refine (pow_any _ _ _ _ (-1) _ h3 (by omega) (by omega) (by omega)).mono ?_
  rw [V_canon, P3.out]
  rintro e w4 ⟨A4, n4, c4, rfl, h4, b4⟩
  go_wp2_with fail
  refine (of_any 4294967295 _ (by omega)).mono ?_
  rintro e w5 ⟨A5, n5, c5, rfl, h5, b5⟩
  have m5 : n5 ≤ 1 := len_canon h5 (by omega)
  go_wp2_with fail
  refine (of_any 4294967295 _ (by omega)).mono ?_
  rintro e w6 ⟨A6, n6, c6, rfl, h6, b6⟩
  have m6 : n6 ≤ 1 := len_canon h6 (by omega)
  go_wp2_with fail
  refine (mul_any _ _ _ _ _ _ _ _ _ (h5.below b6) h6 (by omega) (by omega)).mono ?_
  rw [V_canon, P4.out]
  rintro e w7 ⟨A7, n7, c7, rfl, h7, b7⟩
  obtain rfl : n7 = 2 := h7.len.symm
  go_wp2_with fail
  refine (same_any _ _ _ _ _ _ _ _ _ (h7.below (below_new _ _)) (rd_lit2 w7 1 4294967294 (by omega) (by omega)) (by omega)).mono ?_
  rw [sameB_self]
  rintro e w8 ⟨rfl, d8⟩
  have f7 := below_next (below_next (below_next (below_next b3 b4) b5) b6) b7
  have f8 := below_next f7 (below_next (below_new _ _) d8.below)
  have h2' := h2.below f8
  go_wp2_with fail
  refine (same_any _ _ _ _ _ _ _ _ _ (h2'.below (below_new _ _)) (rd_lit1 w8 1024 (by omega)) (by omega)).mono ?_
  rw [sameB_self]
  rintro e w9 ⟨rfl, d9⟩
  go_wp2
  go_ret
  exact ⟨rfl, below_next (below_next (below_next b1 b2) f8) (below_next (below_new _ _) d9.below)⟩
end Go.Proofs.Ythkblaodnfanfaa
