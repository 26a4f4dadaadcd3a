/- Contract of twos.Up: a number times 2^n. -/
import Derived.Test.YthkblaodnfanfaaT2
import Derived.Test.YthkblaodnfanfaaB3
namespace Go.Proofs.Ythkblaodnfanfaa
open Go.RowKit M
attribute [local go_sem] max_ints min_ints

theorem mx_zero (i : Int) : mxI i 0 = ((i.toNat : Nat) : Int) := by
  unfold mxI
  by_cases h : i < 0
  · rw [if_pos h]; omega
  · rw [if_neg h]; omega
theorem mn_of (a b : Nat) : mnI (a : Int) (b : Int) = ((min a b : Nat) : Int) := by
  unfold mnI
  by_cases h : (b : Int) < (a : Int)
  · rw [if_pos h]; omega
  · rw [if_neg h]; omega

theorem up_rules (x y t : Nat) (h1 : x * 2 ^ (t % 32) < 9223372036854775808) (hy : y < 2 ^ (t % 32)) (h3 : x * 2 ^ (t % 32) % 4294967296 % 2 ^ (t % 32) = 0) :
    IntKind.u64.wrap ((x : Int) * 2 ^ (t % 32)) % 4294967296 = ((x * 2 ^ (t % 32) % 4294967296 : Nat) : Int) ∧
    IntKind.u64.wrap ((x : Int) * 2 ^ (t % 32)) / 4294967296 % 4294967296 = ((x * 2 ^ (t % 32) / 4294967296 : Nat) : Int) ∧
    bits .or .u32 (y : Int) ((x * 2 ^ (t % 32) % 4294967296 : Nat) : Int) = ((y + x * 2 ^ (t % 32) % 4294967296 : Nat) : Int) ∧ y + x * 2 ^ (t % 32) % 4294967296 < 4294967296 := by
  have e : (x : Int) * 2 ^ (t % 32) = ((x * 2 ^ (t % 32) : Nat) : Int) := by rw [Int.natCast_mul, Int.natCast_pow]; rfl
  obtain ⟨p1, p2⟩ := pow_low t
  have hw : IntKind.u64.wrap ((x : Int) * 2 ^ (t % 32)) = ((x * 2 ^ (t % 32) : Nat) : Int) := by
    rw [e]
    exact wraps_u64 _ (by omega) (by omega)
  have hlo : x * 2 ^ (t % 32) % 4294967296 < 4294967296 := Nat.mod_lt _ (by omega)
  rw [hw]
  generalize x * 2 ^ (t % 32) = v at *
  generalize hl : v % 4294967296 = lo at *
  have hsum : lo + 2 ^ (t % 32) ≤ 4294967296 := by
    have d1 : 2 ^ (t % 32) ∣ lo := Nat.dvd_of_mod_eq_zero h3
    have d2 : 2 ^ (t % 32) ∣ 4294967296 := ⟨2 ^ (32 - t % 32), by rw [← Nat.pow_add, show t % 32 + (32 - t % 32) = 32 by omega]⟩
    obtain ⟨a, ha⟩ := d1
    obtain ⟨b, hb⟩ := d2
    have hab : a < b := by
      apply Nat.lt_of_not_le
      intro hle
      have := Nat.mul_le_mul_left (2 ^ (t % 32)) hle
      omega
    have h4 := Nat.mul_le_mul_left (2 ^ (t % 32)) (show a + 1 ≤ b by omega)
    rw [Nat.mul_add] at h4
    omega
  refine ⟨by omega, by omega, ?_, by omega⟩
  have hj := bits_join .u32 32 (by decide) (fun n a b => by rw [IntKind.wrap_u32]; omega) (t % 32) (lo : Int) (y : Int) (by omega) (by exact_mod_cast h3) (by omega) (by omega) (by exact_mod_cast hy) (by omega)
  have hc : bits .or .u32 (y : Int) (lo : Int) = bits .or .u32 (lo : Int) (y : Int) := by simp only [bits, BitVec.or_comm]
  rw [hc, hj]
  omega

set_option maxHeartbeats 2000000 in
theorem twosUp_any (A : Option Addr) (n c : Nat) (xs : List Nat) (i : Int) (w : World) (hr : Rd w A n c xs) (hn : n ≤ 35184372000000) :
    Calls Try.prog 57 #[.slice A n c, .int .i64 i] w (Gives w (canon (V xs * 2 ^ (min i.toNat 4096)))) := by
  obtain ⟨r, hr0⟩ : ∃ r, r = i.toNat := ⟨_, rfl⟩
  obtain ⟨t, ht⟩ : ∃ t, t = min r 4096 := ⟨_, rfl⟩
  have h1 : mxI i 0 = (r : Int) := by rw [hr0]; exact mx_zero i
  have h2 : mnI (r : Int) 4096 = (t : Int) := by rw [ht]; exact mn_of _ 4096
  rw [← hr0, ← ht]
  have htl : t ≤ 4096 := by omega
  clear ht hr0
  go_enter Try.func57, Try.ntmps57
  go_wp2_with (first
    | (at_make; refine make_words _ rfl _ _ rfl _ (t / 32 + n + 1) rfl rfl (by omega) (by omega) ?_; intro g w1 hown0 hb0))

  go_loopw [26] (fun vi wr => ∃ (k : Nat) (O : List Nat), vi = .int .i64 k ∧ k ≤ n ∧ Own wr w.heap.size g (t / 32 + n + 1) (t / 32 + n + 1) O ∧ Below w.heap.size w wr ∧ Ups xs O t k) (fun vi _ => n - (intOf vi).toNat)
  case atStart => exact ⟨0, _, rfl, by omega, hown0, hb0, Ups.first _ _ _⟩
  case round =>
    clear hown0 hb0
    obtain ⟨k, O, rfl, hk, hown, hb, hup⟩ := hrel
    by_cases hlt : k < n
    · obtain ⟨ad, x, rfl, hcx, hx, HX⟩ := (hr.below hb).word k hlt
      obtain ⟨y, hcy, hy, HY⟩ := hown.word (t / 32 + k) (by omega)
      obtain ⟨z, hcz, hz, HZ⟩ := hown.word (t / 32 + k + 1) (by omega)
      have hf1 := hown.frozen (t / 32 + k)
      have hf2 := hown.frozen (t / 32 + k + 1)
      obtain ⟨s1, s2, s3⟩ := shift_word x t hx
      have hnx := hup.next (by rw [hr.len]; exact hlt) (by rw [hown.len]; omega) HX.out HY.out hx
      have hyl := hup.2.1
      rw [HY.out] at hyl
      obtain ⟨r1, r2, r3, q1⟩ := up_rules x y t s1 hyl s3
      generalize x * 2 ^ (t % 32) % 4294967296 = lo at *
      generalize x * 2 ^ (t % 32) / 4294967296 = hi at *
      have hhi : hi < 4294967296 := by have := (pow_low t).2; omega
      have HN := Lib.hid hnx
      clear hnx hyl s1 s2 s3
      go_wp2
      go_roundw
      case rel => exact ⟨k + 1, _, by go_num, by omega, (hown.set (t / 32 + k) (y + lo) q1).set (t / 32 + k + 1) hi hhi, (hb.setCell hown.base_le _).setCell hown.base_le _, HN.out⟩
      case measure => simp [intOf]; omega
    · obtain rfl : k = n := by omega
      have hv := hup.last (by rw [hr.len]; omega)
      have HV := Lib.hid hv
      clear hv
      go_wp2_with fail
      refine (norm_any _ _ _ _ _ hown.rd (by omega)).mono ?_
      rintro e w2 ⟨A2, n2, c2, rfl, h2, b2⟩
      go_wp2
      go_ret
      rw [HV.out] at h2
      exact Gives.mk h2 (below_next hb b2)
end Go.Proofs.Ythkblaodnfanfaa
