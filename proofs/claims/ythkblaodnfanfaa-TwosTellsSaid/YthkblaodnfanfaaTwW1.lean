/- The law TwosTells, walked. -/
import Derived.Test.YthkblaodnfanfaaH
namespace Go.Proofs.Ythkblaodnfanfaa
open Go.RowKit M

theorem bitInt_any (A : Option Addr) (n c : Nat) (xs : List Nat) (i : Int) (w : World) (hr : Rd w A n c xs) (hn : n ≤ 35184372088832) (hi : i ≤ 9223372036854775807) :
    Calls Try.prog 46 #[.slice A n c, .int .i64 i] w fun e w' => e = .returned (.bool (hasI (V xs) i)) ∧ w = w' := by
  by_cases h0 : 0 ≤ i
  · obtain ⟨j, rfl⟩ := Int.eq_ofNat_of_zero_le h0
    have e : hasI (V xs) (j : Int) = hasB (V xs) j := by simp [hasI]
    rw [e]
    exact bit_any A n c xs j w hr hn (by omega)
  · have e : hasI (V xs) i = false := by simp [hasI, h0]
    rw [e]
    exact bit_neg A n c i w (by omega)

set_option maxHeartbeats 2000000 in
theorem twosTells_any (A : Option Addr) (n c : Nat) (xs : List Nat) (i : Int) (w : World) (hr : Rd w A n c xs) (_hi0 : -9223372036854775808 ≤ i) (hi : i ≤ 9223372036854775807) :
    Calls Try.prog 10 #[.slice A n c, .int .i64 i] w fun e w' => e = .returned (.bool true) ∧ Below w.heap.size w w' := by
  by_cases hn : n ≤ 60
  · go_enter Try.func10, Try.ntmps10
    go_wp2_with fail
    refine (twosLen_any _ _ _ _ _ hr (by omega)).mono ?_
    rintro e w1 ⟨rfl, b1⟩
    go_wp2_with fail
    refine (refLen3_any _ _ _ _ _ (hr.below b1) (by omega)).mono ?_
    rintro e w2 ⟨rfl, rfl⟩
    go_wp2_with fail
    refine (twosZeros_any _ _ _ _ _ (hr.below b1) (by omega)).mono ?_
    rintro e w2 ⟨rfl, rfl⟩
    go_wp2_with fail
    refine (refZeros3_any _ _ _ _ _ (hr.below b1) (by omega)).mono ?_
    rintro e w2 ⟨rfl, rfl⟩
    go_wp2_with fail
    refine (bitInt_any _ _ _ _ i _ (hr.below b1) (by omega) hi).mono ?_
    rintro e w2 ⟨rfl, rfl⟩
    go_wp2_with fail
    refine (hasInt_any _ _ _ _ i _ (hr.below b1) (by omega) hi).mono ?_
    rintro e w2 ⟨rfl, rfl⟩
    go_wp2_with fail
    refine (works3 _).mono ?_
    rintro e w3 ⟨rfl, b3⟩
    go_wp2
    go_ret
    exact ⟨rfl, below_next b1 b3⟩
  · go_enter Try.func10, Try.ntmps10
    go_wp2_with fail
    refine (works3 _).mono ?_
    rintro e w3 ⟨rfl, b3⟩
    go_wp2
    go_ret
    exact ⟨rfl, b3⟩
end Go.Proofs.Ythkblaodnfanfaa
