/- Contracts of layer 3: a bit of a number (twos.Bit, the document's Has). -/
import Derived.Test.YthkblaodnfanfaaG
namespace Go.Proofs.Ythkblaodnfanfaa
open Go.RowKit M

/-- Is the bit at a place 1? -/
def hasB (v i : Nat) : Bool := decide (bit v i = 1)
theorem hasB_high {xs : List Nat} (ho : Ok xs) (i : Nat) (h : xs.length ≤ i / 32) : hasB (V xs) i = false := by
  have h1 := V_lt ho
  rw [pow32] at h1
  have h2 : 2 ^ (32 * xs.length) ≤ 2 ^ i := Nat.pow_le_pow_right (by omega) (by omega)
  have := bit_high (V xs) i (by omega)
  simp [hasB, this]

theorem div_cast (x k : Nat) : (x : Int) / 2 ^ k = ((x / 2 ^ k : Nat) : Int) := by
  rw [Int.natCast_ediv, Int.natCast_pow]; rfl

set_option maxHeartbeats 1000000 in
theorem bit_any (A : Option Addr) (n c : Nat) (xs : List Nat) (i : Nat) (w : World) (hr : Rd w A n c xs) (hn : n ≤ 35184372088832) (hi : i ≤ 9223372036854775807) :
    Calls Try.prog 46 #[.slice A n c, .int .i64 i] w fun e w' => e = .returned (.bool (hasB (V xs) i)) ∧ w = w' := by
  by_cases hlt : i / 32 < n
  · obtain ⟨ad, x, rfl, hc, hx, HX⟩ := hr.word (i / 32) hlt
    go_enter Try.func46, Try.ntmps46
    go_wp2
    go_ret
    refine ⟨ret_bool ?_, rfl⟩
    rw [hasB, bit_V xs hr.ok, HX.out, div_cast, mask1 _ (Nat.lt_of_le_of_lt (Nat.div_le_self _ _) hx)]
    unfold bit
    generalize x / 2 ^ (i % 32) = y
    rw [Bool.eq_iff_iff]
    simp
    omega
  · rw [hasB_high hr.ok i (by rw [hr.len]; omega)]
    go_enter Try.func46, Try.ntmps46
    go_wp2
    go_ret
    exact ⟨rfl, rfl⟩

set_option maxHeartbeats 1000000 in
theorem has_any (A : Option Addr) (n c : Nat) (xs : List Nat) (i : Nat) (w : World) (hr : Rd w A n c xs) (hn : n ≤ 35184372088832) (hi : i ≤ 9223372036854775807) :
    Calls Try.prog 47 #[.slice A n c, .int .i64 i] w fun e w' => e = .returned (.bool (hasB (V xs) i)) ∧ w = w' := by
  by_cases hlt : i / 32 < n
  · obtain ⟨ad, x, rfl, hc, hx, HX⟩ := hr.word (i / 32) hlt
    go_enter Try.func47, Try.ntmps47
    go_wp2
    go_loop [5, 6] (fun vx vk => ∃ (k y : Nat), vk = .int .i64 k ∧ k ≤ i % 32 ∧ vx = .int .u32 y ∧ y < 4294967296 ∧ Hid (y = x / 2 ^ k)) (fun _ vk => 32 - (intOf vk).toNat)
    case atStart => exact ⟨0, x, rfl, by omega, rfl, hx, Lib.hid (by simp)⟩
    case round =>
      obtain ⟨k, y, rfl, hk, rfl, hy, HY⟩ := hrel
      by_cases hk2 : k < i % 32
      · go_wp2
        go_round
        case rel => exact ⟨k + 1, y / 2, by go_num, by omega, by go_num, by omega, Lib.hid (by rw [HY.out, Nat.pow_succ, Nat.div_div_eq_div_mul])⟩
        case measure => simp [intOf]; omega
      · go_wp2
        go_ret
        refine ⟨ret_bool ?_, rfl⟩
        have e : k = i % 32 := by omega
        rw [hasB, bit_V xs hr.ok, HX.out]
        unfold bit
        rw [← e, ← HY.out, Bool.eq_iff_iff]
        simp
        omega
  · rw [hasB_high hr.ok i (by rw [hr.len]; omega)]
    go_enter Try.func47, Try.ntmps47
    go_wp2
    go_ret
    exact ⟨rfl, rfl⟩

set_option maxHeartbeats 1000000 in
theorem bit_neg (A : Option Addr) (n c : Nat) (i : Int) (w : World) (hi : i < 0) :
    Calls Try.prog 46 #[.slice A n c, .int .i64 i] w fun e w' => e = .returned (.bool false) ∧ w = w' := by
  go_enter Try.func46, Try.ntmps46
  go_wp2
  go_ret
  exact ⟨rfl, rfl⟩
set_option maxHeartbeats 1000000 in
theorem has_neg (A : Option Addr) (n c : Nat) (i : Int) (w : World) (hi : i < 0) :
    Calls Try.prog 47 #[.slice A n c, .int .i64 i] w fun e w' => e = .returned (.bool false) ∧ w = w' := by
  go_enter Try.func47, Try.ntmps47
  go_wp2
  go_ret
  exact ⟨rfl, rfl⟩
end Go.Proofs.Ythkblaodnfanfaa
