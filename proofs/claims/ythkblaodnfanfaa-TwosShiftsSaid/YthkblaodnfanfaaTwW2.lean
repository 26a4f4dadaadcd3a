/- The law TwosShifts, walked. -/
import Derived.Test.YthkblaodnfanfaaH
namespace Go.Proofs.Ythkblaodnfanfaa
open Go.RowKit M

set_option maxHeartbeats 2000000 in
theorem twosShifts_any (A : Option Addr) (n c : Nat) (xs : List Nat) (i : Int) (w : World) (hr : Rd w A n c xs) (_hi0 : -9223372036854775808 ≤ i) (hi : i ≤ 9223372036854775807) :
    Calls Try.prog 13 #[.slice A n c, .int .i64 i] w fun e w' => e = .returned (.bool true) ∧ Below w.heap.size w w' := by
  by_cases hn : n ≤ 60
  · have hv := V_lt_of_len hr hn
    have hup := up_lt (V xs) 60 (min i.toNat 4096) 128 hv (Nat.min_le_right _ _)
    have hdn : V xs / 2 ^ i.toNat < 4294967296 ^ 60 := Nat.lt_of_le_of_lt (Nat.div_le_self _ _) hv
    have hlo : V xs % 2 ^ i.toNat < 4294967296 ^ 60 := Nat.lt_of_le_of_lt (Nat.mod_le _ _) hv
    generalize hU : V xs * 2 ^ (min i.toNat 4096) = u at hup
    generalize hD : V xs / 2 ^ i.toNat = d at hdn
    generalize hL : V xs % 2 ^ i.toNat = l at hlo
    have HU := Lib.hid hU
    have HD := Lib.hid hD
    have HL := Lib.hid hL
    clear hU hD hL hv
    go_enter Try.func13, Try.ntmps13
    go_wp2_with fail
    refine (twosUp_any _ _ _ _ i _ hr (by omega)).mono ?_
    rw [HU.out]
    rintro e w1 ⟨A1, n1, c1, rfl, h1, b1⟩
    have m1 : n1 ≤ 60 + 128 := len_canon h1 hup
    go_wp2_with fail
    refine (refUp_any _ _ _ _ i _ (hr.below b1) (by omega)).mono ?_
    rw [HU.out]
    rintro e w2 ⟨A2, n2, c2, rfl, h2, b2⟩
    have g2 := below_next b1 b2
    go_wp2_with fail
    refine (same_any _ _ _ _ _ _ _ _ _ (h1.below b2) h2 (by omega)).mono ?_
    rw [sameB_self]
    rintro e w3 ⟨rfl, d3⟩
    have g3 := below_next g2 d3.below
    go_wp2_with fail
    refine (twosDown_any _ _ _ _ i _ (hr.below g3) (by omega) hi).mono ?_
    rw [HD.out]
    rintro e w4 ⟨A4, n4, c4, rfl, h4, b4⟩
    have m4 : n4 ≤ 60 := len_canon h4 hdn
    have g4 := below_next g3 b4
    go_wp2_with fail
    refine (refDown_any _ _ _ _ i _ (hr.below g4) (by omega)).mono ?_
    rw [HD.out]
    rintro e w5 ⟨A5, n5, c5, rfl, h5, b5⟩
    have g5 := below_next g4 b5
    go_wp2_with fail
    refine (same_any _ _ _ _ _ _ _ _ _ (h4.below b5) h5 (by omega)).mono ?_
    rw [sameB_self]
    rintro e w6 ⟨rfl, d6⟩
    have g6 := below_next g5 d6.below
    go_wp2_with fail
    refine (twosLow_any _ _ _ _ i _ (hr.below g6) (by omega) hi).mono ?_
    rw [HL.out]
    rintro e w7 ⟨A7, n7, c7, rfl, h7, b7⟩
    have m7 : n7 ≤ 60 := len_canon h7 hlo
    have g7 := below_next g6 b7
    go_wp2_with fail
    refine (refLow_any _ _ _ _ i _ (hr.below g7) (by omega)).mono ?_
    rw [HL.out]
    rintro e w8 ⟨A8, n8, c8, rfl, h8, b8⟩
    have g8 := below_next g7 b8
    go_wp2_with fail
    refine (same_any _ _ _ _ _ _ _ _ _ (h7.below b8) h8 (by omega)).mono ?_
    rw [sameB_self]
    rintro e w9 ⟨rfl, d9⟩
    have g9 := below_next g8 d9.below
    go_wp2_with fail
    refine (works3 _).mono ?_
    rintro e w10 ⟨rfl, b10⟩
    go_wp2
    go_ret
    exact ⟨rfl, below_next g9 b10⟩
  · go_enter Try.func13, Try.ntmps13
    go_wp2_with fail
    refine (works3 _).mono ?_
    rintro e w3 ⟨rfl, b3⟩
    go_wp2
    go_ret
    exact ⟨rfl, b3⟩
end Go.Proofs.Ythkblaodnfanfaa
