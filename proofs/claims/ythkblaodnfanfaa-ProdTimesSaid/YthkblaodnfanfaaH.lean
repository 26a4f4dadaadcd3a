/- The examples of layer 3 (works), walked. -/
import Derived.Test.YthkblaodnfanfaaT5
namespace Go.Proofs.Ythkblaodnfanfaa
open Go.RowKit M

theorem blen_8 : blen 8 = 4 := blen_eq (k := 3) (by decide) (by decide)
theorem tz_8 : tz 8 = 3 := tz_of 8 3 (by decide) (by decide)
theorem hasB_8 : hasB 8 3 = true := by decide
theorem len_canon {w : World} {A : Option Addr} {n c v M : Nat} (h : Rd w A n c (canon v)) (hv : v < 4294967296 ^ M) : n ≤ M := by
  rw [← h.len]; exact canon_length_le hv
theorem up_lt (v n t K : Nat) (hv : v < 4294967296 ^ n) (ht : t ≤ 32 * K) : v * 2 ^ t < 4294967296 ^ (n + K) := by
  have h1 : 2 ^ t ≤ 4294967296 ^ K := by rw [pow32]; exact Nat.pow_le_pow_right (by omega) ht
  have h2 : v * 2 ^ t ≤ v * 4294967296 ^ K := Nat.mul_le_mul_left _ h1
  have h3 : v * 4294967296 ^ K < 4294967296 ^ n * 4294967296 ^ K := Nat.mul_lt_mul_of_pos_right hv (pow_pos K)
  rw [Nat.pow_add]
  omega
theorem V_lt_of_len {w : World} {A : Option Addr} {n c M : Nat} {xs : List Nat} (h : Rd w A n c xs) (hn : n ≤ M) : V xs < 4294967296 ^ M := by
  have h1 := V_lt h.ok
  rw [h.len] at h1
  exact Nat.lt_of_lt_of_le h1 (Nat.pow_le_pow_right (by omega) hn)

set_option maxHeartbeats 2000000 in
theorem works3 (w : World) : Calls Try.prog 41 #[] w fun e w' => e = .returned (.bool true) ∧ Below w.heap.size w w' := by
  go_enter Try.func41, Try.ntmps41
  go_wp2_with fail
  refine (of_any 8 _ (by omega)).mono ?_
  rintro e w1 ⟨A1, n1, c1, rfl, h1, b1⟩
  have m1 : n1 ≤ 1 := len_canon h1 (by omega)
  go_wp2_with fail
  refine (twosLen_any _ _ _ _ _ h1 (by omega)).mono ?_
  rw [V_canon, blen_8]
  rintro e w2 ⟨rfl, b2⟩
  go_wp2_with fail
  refine (of_any 8 _ (by omega)).mono ?_
  rintro e w3 ⟨A3, n3, c3, rfl, h3, b3⟩
  have m3 : n3 ≤ 1 := len_canon h3 (by omega)
  go_wp2_with fail
  refine (twosZeros_any _ _ _ _ _ h3 (by omega)).mono ?_
  rw [V_canon, tz_8]
  rintro e w4 ⟨rfl, rfl⟩
  go_wp2_with fail
  refine (of_any 8 _ (by omega)).mono ?_
  rintro e w5 ⟨A5, n5, c5, rfl, h5, b5⟩
  have m5 : n5 ≤ 1 := len_canon h5 (by omega)
  go_wp2_with fail
  refine (bit_any _ _ _ _ 3 _ h5 (by omega) (by omega)).mono ?_
  rw [V_canon, hasB_8]
  rintro e w6 ⟨rfl, rfl⟩
  go_wp2_with fail
  refine (of_any 13 _ (by omega)).mono ?_
  rintro e w7 ⟨A7, n7, c7, rfl, h7, b7⟩
  have m7 : n7 ≤ 1 := len_canon h7 (by omega)
  go_wp2_with fail
  refine (twosDown_any _ _ _ _ 2 _ h7 (by omega) (by omega)).mono ?_
  rw [V_canon, show 13 / 2 ^ (2 : Int).toNat = 3 by decide]
  rintro e w8 ⟨A8, n8, c8, rfl, h8, b8⟩
  have m8 : n8 ≤ 1 := len_canon h8 (by omega)
  go_wp2_with fail
  refine (of_any 3 _ (by omega)).mono ?_
  rintro e w9 ⟨A9, n9, c9, rfl, h9, b9⟩
  have m9 : n9 ≤ 1 := len_canon h9 (by omega)
  go_wp2_with fail
  refine (cmp_any _ _ _ _ _ _ _ _ _ (h8.below b9) h9 (by omega) (by omega)).mono ?_
  rw [cmpI_eq rfl]
  rintro e w10 ⟨rfl, d10⟩
  go_wp2
  go_ret
  exact ⟨rfl, below_next (below_next (below_next (below_next (below_next (below_next (below_next b1 b2) b3) b5) b7) b8) b9) d10.below⟩
end Go.Proofs.Ythkblaodnfanfaa
