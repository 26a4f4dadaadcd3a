/- Plain arithmetic of shifts: where a shift up, a shift down and the low bits stand, word by word. -/
import Derived.Test.YthkblaodnfanfaaB2
namespace Go.Proofs.Ythkblaodnfanfaa.M

theorem pow_split (t : Nat) : 2 ^ t = 4294967296 ^ (t / 32) * 2 ^ (t % 32) := by rw [pow32, ← Nat.pow_add]; congr 1; omega
theorem pow_low (t : Nat) : 0 < 2 ^ (t % 32) ∧ 2 ^ (t % 32) ≤ 2147483648 := by
  refine ⟨Nat.pow_pos (by omega), ?_⟩
  have : 2 ^ (t % 32) ≤ 2 ^ 31 := Nat.pow_le_pow_right (by omega) (by omega)
  omega

/-- A shift up by t bits, k words of xs done. -/
def Ups (xs zs : List Nat) (t k : Nat) : Prop :=
  V zs = V (xs.take k) * 2 ^ t ∧ zs.getD (t / 32 + k) 0 < 2 ^ (t % 32) ∧ ∀ j, t / 32 + k < j → zs.getD j 0 = 0
theorem Ups.first (xs : List Nat) (t n : Nat) : Ups xs (List.replicate n 0) t 0 := by
  refine ⟨by simp [V_zeros, V], by rw [getD_zeros]; exact (pow_low t).1, fun j _ => getD_zeros n j⟩
/-- One word of it: its low part, its high part. -/
theorem shift_word (x t : Nat) (hx : x < 4294967296) :
    x * 2 ^ (t % 32) < 9223372036854775808 ∧ x * 2 ^ (t % 32) / 4294967296 < 2 ^ (t % 32) ∧ x * 2 ^ (t % 32) % 4294967296 % 2 ^ (t % 32) = 0 := by
  obtain ⟨h1, h2⟩ := pow_low t
  refine ⟨?_, ?_, ?_⟩
  · have : x * 2 ^ (t % 32) ≤ 4294967295 * 2147483648 := Nat.mul_le_mul (by omega) h2
    omega
  · rw [Nat.div_lt_iff_lt_mul (by omega), Nat.mul_comm (2 ^ (t % 32))]
    exact Nat.mul_lt_mul_of_pos_right hx h1
  · have e : (4294967296 : Nat) = 2 ^ (t % 32) * 2 ^ (32 - t % 32) := by rw [← Nat.pow_add, show t % 32 + (32 - t % 32) = 32 by omega]
    rw [e, Nat.mod_mul_right_mod, Nat.mul_mod_left]
theorem Ups.next {xs zs : List Nat} {t k x y : Nat} (h : Ups xs zs t k) (hk : k < xs.length) (hz : t / 32 + k + 1 < zs.length) (hx : xs.getD k 0 = x) (hy : zs.getD (t / 32 + k) 0 = y) (hxl : x < 4294967296) :
    Ups xs ((zs.set (t / 32 + k) (y + x * 2 ^ (t % 32) % 4294967296)).set (t / 32 + k + 1) (x * 2 ^ (t % 32) / 4294967296)) t (k + 1) := by
  obtain ⟨h1, h2, h3⟩ := h
  obtain ⟨s1, s2, s3⟩ := shift_word x t hxl
  have e1 := V_set zs (t / 32 + k) (y + x * 2 ^ (t % 32) % 4294967296) (by omega)
  have e2 := V_set (zs.set (t / 32 + k) (y + x * 2 ^ (t % 32) % 4294967296)) (t / 32 + k + 1) (x * 2 ^ (t % 32) / 4294967296) (by rw [List.length_set]; exact hz)
  rw [getD_set, if_neg (by omega), h3 _ (by omega)] at e2
  rw [hy] at e1
  refine ⟨?_, ?_, ?_⟩
  · have e3 := V_take_succ xs k hk
    rw [hx] at e3
    rw [e3, Nat.add_mul, ← h1]
    have hd : x * 2 ^ (t % 32) = x * 2 ^ (t % 32) % 4294967296 + 4294967296 * (x * 2 ^ (t % 32) / 4294967296) := by omega
    have e4 : 4294967296 ^ k * x * 2 ^ t = 4294967296 ^ (t / 32 + k) * (x * 2 ^ (t % 32)) := by
      rw [pow_split t, Nat.pow_add]
      simp only [Nat.mul_assoc, Nat.mul_comm, Nat.mul_left_comm]
    have e5 : 4294967296 ^ (t / 32 + k) * (x * 2 ^ (t % 32)) = 4294967296 ^ (t / 32 + k) * (x * 2 ^ (t % 32) % 4294967296) + 4294967296 ^ (t / 32 + k) * (4294967296 * (x * 2 ^ (t % 32) / 4294967296)) := by
      rw [← Nat.mul_add, ← hd]
    rw [e4, e5]
    rw [Nat.mul_add] at e1
    rw [Nat.pow_succ, Nat.mul_zero, Nat.add_zero, Nat.mul_assoc] at e2
    omega
  · rw [show t / 32 + (k + 1) = t / 32 + k + 1 by omega, getD_set, if_pos ⟨rfl, by rw [List.length_set]; exact hz⟩]
    exact s2
  · intro j hj
    rw [getD_set, if_neg (by omega), getD_set, if_neg (by omega)]
    exact h3 j (by omega)
theorem Ups.last {xs zs : List Nat} {t k : Nat} (h : Ups xs zs t k) (hk : xs.length ≤ k) : V zs = V xs * 2 ^ t := by
  rw [h.1, List.take_of_length_le hk]

/-- A shift down by t bits, k words of the result done. -/
def Downs (xs zs : List Nat) (t k : Nat) : Prop := V (zs.take k) = V xs / 2 ^ t % 4294967296 ^ k
theorem Downs.first (xs zs : List Nat) (t : Nat) : Downs xs zs t 0 := by
  unfold Downs
  rw [Nat.pow_zero, Nat.mod_one]
  simp [V]
/-- One word of it, out of two. -/
theorem down_word (xs : List Nat) (t k : Nat) (ho : Ok xs) : V xs / 2 ^ t / 4294967296 ^ k % 4294967296 = (xs.getD (t / 32 + k) 0 + 4294967296 * xs.getD (t / 32 + k + 1) 0) / 2 ^ (t % 32) % 4294967296 := by
  have e1 : V xs / 2 ^ t / 4294967296 ^ k = V (xs.drop (t / 32 + k)) / 2 ^ (t % 32) := by
    rw [Nat.div_div_eq_div_mul, pow_split t, Nat.mul_right_comm, ← Nat.pow_add, ← Nat.div_div_eq_div_mul, V_div_pow xs ho]
  rw [e1]
  have e2 : V (xs.drop (t / 32 + k)) = xs.getD (t / 32 + k) 0 + 4294967296 * V (xs.drop (t / 32 + k + 1)) := by
    by_cases h : t / 32 + k < xs.length
    · exact V_drop xs _ h
    · rw [List.drop_eq_nil_of_le (by omega), List.drop_eq_nil_of_le (by omega), getD_ge _ _ (by omega)]; simp [V]
  have e3 : V (xs.drop (t / 32 + k + 1)) = xs.getD (t / 32 + k + 1) 0 + 4294967296 * V (xs.drop (t / 32 + k + 1 + 1)) := by
    by_cases h : t / 32 + k + 1 < xs.length
    · exact V_drop xs _ h
    · rw [List.drop_eq_nil_of_le (by omega), List.drop_eq_nil_of_le (by omega), getD_ge _ _ (by omega)]; simp [V]
  rw [e2, e3]
  generalize V (xs.drop (t / 32 + k + 1 + 1)) = r
  generalize xs.getD (t / 32 + k) 0 = x
  generalize xs.getD (t / 32 + k + 1) 0 = y
  have hp := (pow_low t).1
  have e4 : (4294967296 : Nat) * (4294967296 * r) = 2 ^ (t % 32) * (2 ^ (32 - t % 32) * (4294967296 * r)) := by
    rw [← Nat.mul_assoc (2 ^ (t % 32)), ← Nat.pow_add, show t % 32 + (32 - t % 32) = 32 by omega]
  rw [Nat.mul_add, ← Nat.add_assoc, e4, Nat.add_mul_div_left _ _ hp]
  have e5 : 2 ^ (32 - t % 32) * (4294967296 * r) = 4294967296 * (2 ^ (32 - t % 32) * r) := Nat.mul_left_comm _ _ _
  rw [e5, Nat.add_mul_mod_self_left]
theorem Downs.next {xs zs : List Nat} {t k v : Nat} (h : Downs xs zs t k) (hk : k < zs.length) (hv : V xs / 2 ^ t / 4294967296 ^ k % 4294967296 = v) : Downs xs (zs.set k v) t (k + 1) := by
  unfold Downs at *
  rw [V_take_succ _ _ (by rw [List.length_set]; exact hk), getD_set, if_pos ⟨rfl, hk⟩, List.take_set_of_le (Nat.le_refl k), h, Nat.pow_succ, Nat.mod_mul, hv]
theorem Downs.last {xs zs : List Nat} {t k : Nat} (h : Downs xs zs t k) (ho : Ok xs) (hz : zs.length = k) (hk : xs.length ≤ t / 32 + k) : V zs = V xs / 2 ^ t := by
  unfold Downs at h
  rw [List.take_of_length_le (by omega)] at h
  rw [h]
  apply Nat.mod_eq_of_lt
  rw [Nat.div_lt_iff_lt_mul (Nat.pow_pos (by omega))]
  have h1 := V_lt ho
  have h2 : 4294967296 ^ xs.length ≤ 4294967296 ^ k * 4294967296 ^ (t / 32) := by
    rw [← Nat.pow_add]
    exact Nat.pow_le_pow_right (by omega) (by omega)
  have h3 : 4294967296 ^ k * 4294967296 ^ (t / 32) ≤ 4294967296 ^ k * 2 ^ t := Nat.mul_le_mul_left _ (by rw [pow32]; exact Nat.pow_le_pow_right (by omega) (by omega))
  omega
theorem V_lt_two {xs : List Nat} (ho : Ok xs) (t : Nat) (h : xs.length ≤ t / 32) : V xs < 2 ^ t := by
  have h1 := V_lt ho
  rw [pow32] at h1
  exact Nat.lt_of_lt_of_le h1 (Nat.pow_le_pow_right (by omega) (by omega))
/-- The low bits: whole words, and a part of one. -/
theorem low_words (xs : List Nat) (ho : Ok xs) (t : Nat) (h : t / 32 < xs.length) : V (xs.take (t / 32)) + 4294967296 ^ (t / 32) * (xs.getD (t / 32) 0 % 2 ^ (t % 32)) = V xs % 2 ^ t := by
  have hl := V_lt (ho.take (t / 32))
  rw [List.length_take, Nat.min_eq_left (by omega)] at hl
  have e : (4294967296 : Nat) = 2 ^ (t % 32) * 2 ^ (32 - t % 32) := by rw [← Nat.pow_add, show t % 32 + (32 - t % 32) = 32 by omega]
  rw [V_cut xs (t / 32) (by omega), V_drop xs _ h, pow_split t, Nat.mod_mul, Nat.add_mul_mod_self_left, Nat.mod_eq_of_lt hl, Nat.add_mul_div_left _ _ (pow_pos _), Nat.div_eq_of_lt hl, Nat.zero_add]
  congr 2
  have e2 : 4294967296 * V (xs.drop (t / 32 + 1)) = 2 ^ (t % 32) * (2 ^ (32 - t % 32) * V (xs.drop (t / 32 + 1))) := by rw [← Nat.mul_assoc, ← e]
  rw [e2, Nat.add_mul_mod_self_left]
end Go.Proofs.Ythkblaodnfanfaa.M
