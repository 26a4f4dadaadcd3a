/- Plain arithmetic of bits: how many a number has, how many noughts stand at its low end, and each bit of a list of words. -/
import Derived.Test.YthkblaodnfanfaaM
namespace Go.Proofs.Ythkblaodnfanfaa.M

/-- How many bits a number has. -/
def blen (n : Nat) : Nat := if h : n = 0 then 0 else blen (n / 2) + 1
termination_by n
decreasing_by omega
theorem blen_zero : blen 0 = 0 := by rw [blen]; simp
theorem blen_pos {n : Nat} (h : n ≠ 0) : blen n = blen (n / 2) + 1 := by rw [blen]; simp [h]
/-- How many noughts stand at its low end; 0 for 0. -/
def tz (n : Nat) : Nat := if h : n = 0 ∨ n % 2 = 1 then 0 else tz (n / 2) + 1
termination_by n
decreasing_by omega
theorem tz_zero : tz 0 = 0 := by rw [tz]; simp
theorem tz_odd {n : Nat} (h : n % 2 = 1) : tz n = 0 := by rw [tz]; simp [h]
theorem tz_even {n : Nat} (h : n ≠ 0) (h2 : n % 2 = 0) : tz n = tz (n / 2) + 1 := by rw [tz]; simp [h, h2]
/-- Of a word: 32 for 0. -/
def tzw (x : Nat) : Nat := if x = 0 then 32 else tz x
theorem tzw_zero : tzw 0 = 32 := rfl
theorem tzw_pos {x : Nat} (h : x ≠ 0) : tzw x = tz x := by simp [tzw, h]

theorem blen_one : blen 1 = 1 := by rw [blen_pos (by omega)]; simp [blen_zero]
theorem blen_shift (s n : Nat) (h : n / 2 ^ s ≠ 0) : blen n = s + blen (n / 2 ^ s) := by
  induction s generalizing n with
  | zero => simp
  | succ s ih =>
    have e : n / 2 ^ (s + 1) = n / 2 / 2 ^ s := by rw [Nat.pow_succ, Nat.mul_comm, ← Nat.div_div_eq_div_mul]
    rw [e] at h ⊢
    have hn : n ≠ 0 := by
      intro h0
      subst h0
      simp at h
    rw [blen_pos hn, ih _ h]
    omega
theorem blen_le_iff (n k : Nat) : blen n ≤ k ↔ n < 2 ^ k := by
  induction k generalizing n with
  | zero =>
    by_cases h : n = 0
    · rw [h, blen_zero]; simp
    · rw [blen_pos h]; simp; omega
  | succ k ih =>
    by_cases h : n = 0
    · rw [h, blen_zero]
      constructor
      · intro _; exact Nat.pow_pos (by omega)
      · intro _; omega
    · rw [blen_pos h]
      have := ih (n / 2)
      rw [Nat.pow_succ]
      omega
theorem lt_pow_blen (n : Nat) : n < 2 ^ blen n := (blen_le_iff n _).1 (Nat.le_refl _)
theorem blen_le {n k : Nat} (h : n < 2 ^ k) : blen n ≤ k := (blen_le_iff n k).2 h
theorem pow_le_of_blen {n : Nat} (h : n ≠ 0) : 2 ^ (blen n - 1) ≤ n := by
  apply Nat.le_of_not_lt
  intro hlt
  have h1 := blen_le hlt
  have h2 := blen_pos h
  omega
theorem blen_eq_zero {n : Nat} : blen n = 0 ↔ n = 0 := by
  constructor
  · intro h
    apply Classical.byContradiction
    intro hn
    rw [blen_pos hn] at h
    omega
  · intro h; rw [h, blen_zero]
theorem blen_eq {n k : Nat} (h1 : n < 2 ^ (k + 1)) (h2 : 2 ^ k ≤ n) : blen n = k + 1 := by
  have a := blen_le h1
  have b : ¬ blen n ≤ k := by rw [blen_le_iff]; omega
  omega
theorem blen_mul_pow (n k : Nat) (h : n ≠ 0) : blen (n * 2 ^ k) = blen n + k := by
  have hp : 0 < 2 ^ k := Nat.pow_pos (by omega)
  have e : n * 2 ^ k / 2 ^ k = n := Nat.mul_div_cancel _ hp
  have := blen_shift k (n * 2 ^ k) (by rw [e]; exact h)
  rw [e] at this
  omega
theorem tz_shift (s n : Nat) (h : n % 2 ^ s = 0) (h0 : n ≠ 0) : tz n = s + tz (n / 2 ^ s) := by
  induction s generalizing n with
  | zero => simp
  | succ s ih =>
    have e : n / 2 ^ (s + 1) = n / 2 / 2 ^ s := by rw [Nat.pow_succ, Nat.mul_comm, ← Nat.div_div_eq_div_mul]
    rw [e]
    have h2 : n % 2 = 0 := by
      have : 2 ∣ n := Nat.dvd_trans ⟨2 ^ s, by rw [Nat.pow_succ, Nat.mul_comm]⟩ (Nat.dvd_of_mod_eq_zero h)
      omega
    have h3 : n / 2 % 2 ^ s = 0 := by
      obtain ⟨q, hq⟩ := Nat.dvd_of_mod_eq_zero h
      have : n / 2 = 2 ^ s * q := by rw [hq, Nat.pow_succ, Nat.mul_comm (2 ^ s) 2, Nat.mul_assoc]; omega
      rw [this]; exact Nat.mul_mod_right _ _
    rw [tz_even h0 h2, ih (n / 2) h3 (by omega)]
    omega
theorem tz_mul_pow (n k : Nat) (h : n ≠ 0) : tz (n * 2 ^ k) = tz n + k := by
  have hp : 0 < 2 ^ k := Nat.pow_pos (by omega)
  have := tz_shift k (n * 2 ^ k) (Nat.mul_mod_left _ _) (Nat.mul_ne_zero h (by omega))
  rw [Nat.mul_div_cancel _ hp] at this
  omega

/-- The bit at a place. -/
def bit (n i : Nat) : Nat := n / 2 ^ i % 2
theorem pow32 (k : Nat) : 4294967296 ^ k = 2 ^ (32 * k) := by rw [Nat.pow_mul]
theorem V_div_pow (xs : List Nat) (h : Ok xs) (k : Nat) : V xs / 4294967296 ^ k = V (xs.drop k) := by
  by_cases hk : k ≤ xs.length
  · rw [V_cut xs k hk]
    have hl := V_lt (h.take k)
    rw [List.length_take, Nat.min_eq_left hk] at hl
    rw [Nat.add_mul_div_left _ _ (pow_pos k), Nat.div_eq_of_lt hl, Nat.zero_add]
  · rw [List.drop_eq_nil_of_le (by omega), V]
    have := V_lt h
    have h2 : 4294967296 ^ xs.length ≤ 4294967296 ^ k := Nat.pow_le_pow_right (by omega) (by omega)
    exact Nat.div_eq_of_lt (by omega)
theorem V_head (xs : List Nat) (h : Ok xs) : V xs % 4294967296 = xs.getD 0 0 := by
  cases xs with
  | nil => rfl
  | cons x xs =>
    have := h.head
    rw [V]
    show _ = x
    omega
/-- A bit of the value lies in its word. -/
theorem bit_V (xs : List Nat) (h : Ok xs) (i : Nat) : bit (V xs) i = bit (xs.getD (i / 32) 0) (i % 32) := by
  unfold bit
  have e : 2 ^ i = 4294967296 ^ (i / 32) * 2 ^ (i % 32) := by rw [pow32, ← Nat.pow_add]; congr 1; omega
  rw [e, ← Nat.div_div_eq_div_mul, V_div_pow xs h]
  have hd := V_head (xs.drop (i / 32)) (h.drop _)
  rw [getD_drop, Nat.add_zero] at hd
  rw [← hd]
  generalize V (xs.drop (i / 32)) = v
  have h1 : i % 32 ≤ 31 := by omega
  generalize i % 32 = s at h1
  have e2 : (4294967296 : Nat) = 2 ^ s * 2 ^ (32 - s) := by rw [← Nat.pow_add, show s + (32 - s) = 32 by omega]
  have e3 : 2 ^ (32 - s) = 2 * 2 ^ (31 - s) := by rw [← Nat.pow_succ']; congr 1; omega
  rw [e2, Nat.mod_mul_right_div_self, e3, Nat.mod_mul_right_mod]
theorem bit_lt (n i : Nat) : bit n i < 2 := Nat.mod_lt _ (by omega)
theorem bit_high (n i : Nat) (h : n < 2 ^ i) : bit n i = 0 := by
  unfold bit
  rw [Nat.div_eq_of_lt h]
end Go.Proofs.Ythkblaodnfanfaa.M
