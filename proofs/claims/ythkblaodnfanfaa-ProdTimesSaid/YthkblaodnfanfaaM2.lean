/- Plain arithmetic, more: how long the right list is, and which of two values is the greater one. -/
import Derived.Test.YthkblaodnfanfaaM
namespace Go.Proofs.Ythkblaodnfanfaa.M
theorem canon_nil_iff (n : Nat) : (canon n).length = 0 ↔ n = 0 := by
  constructor
  · intro h
    rw [← V_canon n, List.length_eq_zero_iff.1 h]; rfl
  · intro h; rw [h, canon_zero]; rfl
theorem take_len {xs : List Nat} {m v : Nat} (hm : m ≤ xs.length) (h : xs.take m = canon v) : (canon v).length = m := by
  rw [← h, List.length_take]; omega
theorem lt_of_canon_len {a b : Nat} (h : (canon a).length < (canon b).length) : a < b := by
  have h1 := V_lt (canon_ok a)
  rw [V_canon] at h1
  rcases canon_top b with h0 | h0
  · omega
  · have h2 := le_V_of_top _ h0
    rw [V_canon] at h2
    have h3 : 4294967296 ^ (canon a).length ≤ 4294967296 ^ ((canon b).length - 1) := Nat.pow_le_pow_right (by omega) (by omega)
    omega
/-- -1, 0, 1. -/
def cmpI (a b : Nat) : Int := if a < b then -1 else if b < a then 1 else 0
theorem cmpI_lt {a b : Nat} (h : a < b) : cmpI a b = -1 := by simp [cmpI, h]
theorem cmpI_gt {a b : Nat} (h : b < a) : cmpI a b = 1 := by
  unfold cmpI
  rw [if_neg (by omega), if_pos h]
theorem cmpI_eq {a b : Nat} (h : a = b) : cmpI a b = 0 := by
  unfold cmpI
  rw [if_neg (by omega), if_neg (by omega)]
theorem cmpI_bd (a b : Nat) : -1 ≤ cmpI a b ∧ cmpI a b ≤ 1 := by unfold cmpI; split <;> (try split) <;> omega
theorem cmpI_neg {a b : Nat} : cmpI a b < 0 ↔ a < b := by unfold cmpI; split <;> (try split) <;> omega
theorem cmpI_zero {a b : Nat} : cmpI a b = 0 ↔ a = b := by unfold cmpI; split <;> (try split) <;> omega
def isZ (v : Nat) : Bool := decide (v = 0)
def smallB (v : Nat) : Bool := decide (v < 18446744073709551616)
def smallV (v : Nat) : Nat := if v < 18446744073709551616 then v else 0
end Go.Proofs.Ythkblaodnfanfaa.M
