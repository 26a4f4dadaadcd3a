/- Plain arithmetic of bits, more: the highest and the lowest bit of a list's value. -/
import Derived.Test.YthkblaodnfanfaaB
import Derived.Test.YthkblaodnfanfaaM2
namespace Go.Proofs.Ythkblaodnfanfaa.M

theorem blen_canon (v m : Nat) (h : (canon v).length = m + 1) : blen v = 32 * m + blen ((canon v).getD m 0) ∧ (canon v).getD m 0 ≠ 0 := by
  have ht : (canon v).getD m 0 ≠ 0 := by
    rcases canon_top v with h0 | h0
    · omega
    · rw [h, Nat.add_sub_cancel] at h0; exact h0
  refine ⟨?_, ht⟩
  have hd : v / 2 ^ (32 * m) = (canon v).getD m 0 := by
    rw [← pow32]
    have h1 := V_div_pow (canon v) (canon_ok v) m
    rw [V_canon, V_drop _ m (by omega), List.drop_eq_nil_of_le (by omega)] at h1
    rw [h1]
    simp [V]
  have := blen_shift (32 * m) v (by rw [hd]; exact ht)
  rw [hd] at this
  exact this

theorem tz_of (n k : Nat) (h1 : n % 2 ^ k = 0) (h2 : n / 2 ^ k % 2 = 1) : tz n = k := by
  have h0 : n ≠ 0 := by
    intro h
    subst h
    simp at h2
  rw [tz_shift k n h1 h0, tz_odd h2]
  rfl
theorem tz_spec (n : Nat) (h : n ≠ 0) : n % 2 ^ tz n = 0 ∧ n / 2 ^ tz n % 2 = 1 := by
  induction n using Nat.strongRecOn with
  | _ n ih =>
    by_cases h2 : n % 2 = 1
    · rw [tz_odd h2]
      simp
      omega
    · have e := tz_even h (by omega)
      obtain ⟨a, b⟩ := ih (n / 2) (by omega) (by omega)
      rw [e, Nat.pow_succ, Nat.mul_comm]
      constructor
      · rw [Nat.mod_mul, a]
        omega
      · rw [← Nat.div_div_eq_div_mul]
        exact b
theorem tz_lt (n k : Nat) (h : n ≠ 0) (hk : n < 2 ^ k) : tz n < k := by
  apply Nat.lt_of_not_le
  intro hle
  have h1 := (tz_spec n h).1
  have h2 : 2 ^ k ≤ 2 ^ tz n := Nat.pow_le_pow_right (by omega) hle
  rw [Nat.mod_eq_of_lt (by omega)] at h1
  exact h h1
/-- What lies above a word that isn't 0 does not matter. -/
theorem tz_low (x r : Nat) (h : x ≠ 0) (hx : x < 4294967296) : tz (x + 4294967296 * r) = tz x := by
  obtain ⟨a, b⟩ := tz_spec x h
  have hl := tz_lt x 32 h (by omega)
  have e : 4294967296 * r = 2 ^ tz x * (2 * (2 ^ (31 - tz x) * r)) := by
    rw [← Nat.mul_assoc 2, ← Nat.pow_succ', ← Nat.mul_assoc, ← Nat.pow_add, show tz x + (31 - tz x).succ = 32 by omega]
  apply tz_of
  · rw [e, Nat.add_mul_mod_self_left]; exact a
  · rw [e, Nat.add_mul_div_left _ _ (Nat.pow_pos (by omega))]
    omega
/-- The first word that isn't 0 tells. -/
theorem tz_first (xs : List Nat) (ho : Ok xs) (i : Nat) (hi : i < xs.length) (hz : ∀ j, j < i → xs.getD j 0 = 0) (hx : xs.getD i 0 ≠ 0) : tz (V xs) = 32 * i + tz (xs.getD i 0) := by
  have h0 : V (xs.take i) = 0 := V_top_zeros _ (fun j => by
    by_cases hj : j < i
    · rw [getD_take _ _ _ hj]; exact hz j hj
    · rw [getD_ge _ _ (by rw [List.length_take]; omega)])
  have hv : V xs = (xs.getD i 0 + 4294967296 * V (xs.drop (i + 1))) * 2 ^ (32 * i) := by
    rw [V_cut xs i (by omega), h0, V_drop xs i hi, pow32, Nat.mul_comm]
    omega
  rw [hv, tz_mul_pow _ _ (by omega), tz_low _ _ hx (ho.at i)]
  omega
theorem tz_none (xs : List Nat) (hz : ∀ j, j < xs.length → xs.getD j 0 = 0) : tz (V xs) = 0 := by
  have h0 : V xs = 0 := V_top_zeros _ (fun j => by
    by_cases hj : j < xs.length
    · exact hz j hj
    · rw [getD_ge _ _ (by omega)])
  rw [h0, tz_zero]
/-- From the top: the highest bit that is 1. -/
theorem top_next (v m : Nat) (h : v < 2 ^ (m + 1)) (hb : bit v m ≠ 1) : v < 2 ^ m := by
  apply Nat.lt_of_not_le
  intro hle
  apply hb
  unfold bit
  have h1 : v / 2 ^ m < 2 := by rw [Nat.div_lt_iff_lt_mul (Nat.pow_pos (by omega))]; rw [Nat.pow_succ] at h; omega
  have h2 : 0 < v / 2 ^ m := Nat.div_pos hle (Nat.pow_pos (by omega))
  omega
theorem top_here (v m : Nat) (h : v < 2 ^ (m + 1)) (hb : bit v m = 1) : blen v = m + 1 := by
  apply blen_eq h
  apply Nat.le_of_not_lt
  intro hlt
  rw [bit_high v m hlt] at hb
  omega
/-- From below: the lowest bit that is 1. -/
theorem low_next (v i : Nat) (h : v % 2 ^ i = 0) (hb : bit v i ≠ 1) : v % 2 ^ (i + 1) = 0 := by
  unfold bit at hb
  rw [Nat.pow_succ, Nat.mod_mul, h]
  have : v / 2 ^ i % 2 = 0 := by omega
  rw [this, Nat.mul_zero]
theorem low_here (v i : Nat) (h : v % 2 ^ i = 0) (hb : bit v i = 1) : tz v = i := tz_of v i h hb
end Go.Proofs.Ythkblaodnfanfaa.M
