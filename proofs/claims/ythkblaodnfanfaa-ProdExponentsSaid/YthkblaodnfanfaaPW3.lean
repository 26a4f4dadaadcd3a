/- The law ProdExponents, walked. -/
import Derived.Test.YthkblaodnfanfaaJ
namespace Go.Proofs.Ythkblaodnfanfaa
open Go.RowKit M

theorem exp_fits {v t M : Nat} (hv : v < 4294967296 ^ M) (h : 32 * M * t ≤ 65536) : powOk v (t : Int) = true := by
  by_cases h1 : blen v ≤ 1
  · exact powOk_small _ _ h1
  · apply powOk_fits
    rw [Nat.le_div_iff_mul_le (by omega)]
    have h2 := blen_le (n := v) (k := 32 * M) (by rw [← pow32]; exact hv)
    have h3 := Nat.mul_le_mul_left t h2
    rw [Nat.mul_comm t (32 * M)] at h3
    omega
theorem pow_lt {v q M : Nat} (hv : v < 4294967296 ^ M) : v ^ q < 4294967296 ^ (M * q + 1) := by
  have h1 := Nat.pow_le_pow_left (Nat.le_of_lt hv) q
  rw [← Nat.pow_mul] at h1
  rw [Nat.pow_succ]
  have := pow_pos (M * q)
  omega

set_option maxHeartbeats 4000000 in
theorem prodExponents_any (A : Option Addr) (n c : Nat) (xs : List Nat) (d e : Int) (w : World) (hr : Rd w A n c xs) (_hd0 : -9223372036854775808 ≤ d) (_hd : d ≤ 9223372036854775807) (_he0 : -9223372036854775808 ≤ e) (_he : e ≤ 9223372036854775807) :
    Calls Try.prog 16 #[.slice A n c, .int .i64 d, .int .i64 e] w fun e w' => e = .returned (.bool true) ∧ Below w.heap.size w w' := by
  by_cases hn : n ≤ 4
  · by_cases hd0 : 0 ≤ d
    · by_cases he0 : 0 ≤ e
      · by_cases hd1 : d ≤ 20
        · by_cases he1 : e ≤ 20
          · obtain ⟨s, rfl⟩ := Int.eq_ofNat_of_zero_le hd0
            obtain ⟨t, rfl⟩ := Int.eq_ofNat_of_zero_le he0
            have hs : s ≤ 20 := by omega
            have ht : t ≤ 20 := by omega
            obtain ⟨u, hu⟩ : ∃ u, u = s + t := ⟨_, rfl⟩
            have hul : u ≤ 40 := by omega
            have hui : (s : Int) + (t : Int) = (u : Int) := by omega
            have hv := V_lt_of_len hr hn
            have k1 := exp_fits (t := s) hv (by omega)
            have k2 := exp_fits (t := t) hv (by omega)
            have k3 := exp_fits (t := u) hv (by omega)
            have k4 := exp_fits (t := 2) hv (by omega)
            have K1 := Lib.hid k1
            have K2 := Lib.hid k2
            have K3 := Lib.hid k3
            have K4 := Lib.hid k4
            have Y1 := Lib.hid (powV_yes k1)
            have Y2 := Lib.hid (powV_yes k2)
            have Y3 := Lib.hid (powV_yes k3)
            have Y4 := Lib.hid (powV_yes k4)
            have E1 := Lib.hid (show V xs ^ s * V xs ^ t = V xs ^ u by rw [hu, Nat.pow_add])
            have E2 := Lib.hid (show V xs * V xs = V xs ^ 2 from (Nat.pow_two _).symm)
            have HV := Lib.hid hv
            clear k1 k2 k3 k4 hu hv
            go_enter Try.func16, Try.ntmps16
            go_wp2_with fail
            refine (pow_any _ _ _ _ (s : Int) _ hr (by omega) (by omega) (by omega)).mono ?_
            rw [K1.out, Y1.out]
            rintro e w1 ⟨A1, n1, c1, rfl, h1, b1⟩
            have m1 : n1 ≤ 4 * s + 1 := len_canon h1 (pow_lt HV.out)
            go_wp2_with fail
            refine (pow_any _ _ _ _ (t : Int) _ (hr.below b1) (by omega) (by omega) (by omega)).mono ?_
            rw [K2.out, Y2.out]
            rintro e w2 ⟨A2, n2, c2, rfl, h2, b2⟩
            have m2 : n2 ≤ 4 * t + 1 := len_canon h2 (pow_lt HV.out)
            have g2 := below_next b1 b2
            go_wp2_with fail
            refine (pow_any _ _ _ _ (u : Int) _ (hr.below g2) (by omega) (by omega) (by omega)).mono ?_
            rw [K3.out, Y3.out]
            rintro e w3 ⟨A3, n3, c3, rfl, h3, b3⟩
            have m3 : n3 ≤ 4 * u + 1 := len_canon h3 (pow_lt HV.out)
            have g3 := below_next g2 b3
            go_wp2_with fail
            refine (pow_any _ _ _ _ 2 _ (hr.below g3) (by omega) (by omega) (by omega)).mono ?_
            rw [show (2 : Int) = ((2 : Nat) : Int) from rfl, K4.out, Y4.out]
            rintro e w4 ⟨A4, n4, c4, rfl, h4, b4⟩
            have g4 := below_next g3 b4
            go_wp2_with fail
            refine (mul_any _ _ _ _ _ _ _ _ _ (((h1.below b2).below b3).below b4) ((h2.below b3).below b4) (by omega) (by omega)).mono ?_
            rw [V_canon, V_canon, E1.out]
            rintro e w5 ⟨A5, n5, c5, rfl, h5, b5⟩
            have m5 : n5 ≤ 4 * u + 1 := len_canon h5 (pow_lt HV.out)
            have g5 := below_next g4 b5
            go_wp2_with fail
            refine (same_any _ _ _ _ _ _ _ _ _ h5 ((h3.below b4).below b5) (by omega)).mono ?_
            rw [sameB_self]
            rintro e w6 ⟨rfl, d6⟩
            have g6 := below_next g5 d6.below
            go_wp2_with fail
            refine (square_any _ _ _ _ _ (hr.below g6) (by omega)).mono ?_
            rw [E2.out]
            rintro e w7 ⟨A7, n7, c7, rfl, h7, b7⟩
            have m7 : n7 ≤ 4 * 2 + 1 := len_canon h7 (pow_lt HV.out)
            have g7 := below_next g6 b7
            go_wp2_with fail
            refine (same_any _ _ _ _ _ _ _ _ _ h7 (((h4.below b5).below d6.below).below b7) (by omega)).mono ?_
            rw [sameB_self]
            rintro e w8 ⟨rfl, d8⟩
            have g8 := below_next g7 d8.below
            go_wp2_with fail
            refine (works4 _).mono ?_
            rintro e w13 ⟨rfl, b13⟩
            go_wp2
            go_ret
            exact ⟨rfl, below_next g8 b13⟩
          · go_enter Try.func16, Try.ntmps16
            go_wp2_with fail
            refine (works4 _).mono ?_
            rintro e w3 ⟨rfl, b3⟩
            go_wp2
            go_ret
            exact ⟨rfl, b3⟩
        · go_enter Try.func16, Try.ntmps16
          go_wp2_with fail
          refine (works4 _).mono ?_
          rintro e w3 ⟨rfl, b3⟩
          go_wp2
          go_ret
          exact ⟨rfl, b3⟩
      · go_enter Try.func16, Try.ntmps16
        go_wp2_with fail
        refine (works4 _).mono ?_
        rintro e w3 ⟨rfl, b3⟩
        go_wp2
        go_ret
        exact ⟨rfl, b3⟩
    · go_enter Try.func16, Try.ntmps16
      go_wp2_with fail
      refine (works4 _).mono ?_
      rintro e w3 ⟨rfl, b3⟩
      go_wp2
      go_ret
      exact ⟨rfl, b3⟩
  · go_enter Try.func16, Try.ntmps16
    go_wp2_with fail
    refine (works4 _).mono ?_
    rintro e w3 ⟨rfl, b3⟩
    go_wp2
    go_ret
    exact ⟨rfl, b3⟩
end Go.Proofs.Ythkblaodnfanfaa
