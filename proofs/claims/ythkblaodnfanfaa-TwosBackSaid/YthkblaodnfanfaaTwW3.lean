/- The law TwosBack, walked. -/
import Derived.Test.YthkblaodnfanfaaH
namespace Go.Proofs.Ythkblaodnfanfaa
open Go.RowKit M

theorem split_at (v t : Nat) : tot [canon (v / 2 ^ t * 2 ^ t), canon (v % 2 ^ t)] = v := by
  simp only [tot, V_canon]
  have := Nat.div_add_mod v (2 ^ t)
  rw [Nat.mul_comm] at this
  omega

theorem blen_words {v M : Nat} (hv : v < 4294967296 ^ M) : blen v ≤ 32 * M := blen_le (by rw [← pow32]; exact hv)
theorem tz_words {v M : Nat} (h : v ≠ 0) (hv : v < 4294967296 ^ M) : tz v < 32 * M := tz_lt v _ h (by rw [← pow32]; exact hv)

set_option maxHeartbeats 4000000 in
theorem twosBack_any (A : Option Addr) (n c : Nat) (xs : List Nat) (i : Int) (w : World) (hr : Rd w A n c xs) (_hi0 : -9223372036854775808 ≤ i) (_hi : i ≤ 9223372036854775807) :
    Calls Try.prog 19 #[.slice A n c, .int .i64 i] w fun e w' => e = .returned (.bool true) ∧ Below w.heap.size w w' := by
  by_cases hn : n ≤ 60
  · by_cases h0 : 0 ≤ i
    · by_cases h1 : i ≤ 4000
      · obtain ⟨t, rfl⟩ := Int.eq_ofNat_of_zero_le h0
        have ht : t ≤ 4000 := by omega
        have hv := V_lt_of_len hr hn
        have hnat : ((t : Int)).toNat = t := by omega
        have hmin : min t 4096 = t := Nat.min_eq_left (by omega)
        have hup := up_lt (V xs) 60 t 128 hv (by omega)
        have hback : V xs * 2 ^ t / 2 ^ t = V xs := Nat.mul_div_cancel _ (Nat.pow_pos (by omega))
        have hdl : V xs / 2 ^ t < 4294967296 ^ 60 := Nat.lt_of_le_of_lt (Nat.div_le_self _ _) hv
        have hll : V xs % 2 ^ t < 4294967296 ^ 60 := Nat.lt_of_le_of_lt (Nat.mod_le _ _) hv
        have hdu : V xs / 2 ^ t * 2 ^ t < 4294967296 ^ 60 := Nat.lt_of_le_of_lt (Nat.div_mul_le_self _ _) hv
        have hsp := split_at (V xs) t
        have hlb : blen (V xs % 2 ^ t) ≤ t := blen_le (Nat.mod_lt _ (Nat.pow_pos (by omega)))
        have hbl := blen_words hv
        have HN := Lib.hid hnat
        have HM := Lib.hid hmin
        have HU := Lib.hid hup
        have HB := Lib.hid hback
        have HD := Lib.hid hdl
        have HL := Lib.hid hll
        have HX := Lib.hid hdu
        have HS := Lib.hid hsp
        clear hnat hmin hup hback hdl hll hdu hsp
        have key : ∀ (W : World), Below w.heap.size w W → Calls Try.prog 41 #[] W fun e w' => e = .returned (.bool true) ∧ Below w.heap.size w w' := fun W hW => (works3 W).mono fun e w' h => ⟨h.1, below_next hW h.2⟩
        have HK := Lib.hid key
        clear key
        by_cases hz : V xs = 0
        · have hzb : isZ (V xs) = true := by simp [isZ, hz]
          have HZ := Lib.hid hzb
          clear hz hzb
          go_enter Try.func19, Try.ntmps19
          go_wp2_with fail
          refine (twosUp_any _ _ _ _ (t : Int) _ hr (by omega)).mono ?_
          rw [HN.out, HM.out]
          rintro e w1 ⟨A1, n1, c1, rfl, h1, b1⟩
          have m1 : n1 ≤ 60 + 128 := len_canon h1 HU.out
          go_wp2_with fail
          refine (twosDown_any _ _ _ _ (t : Int) _ h1 (by omega) (by omega)).mono ?_
          rw [HN.out, V_canon, HB.out]
          rintro e w2 ⟨A2, n2, c2, rfl, h2, b2⟩
          have m2 : n2 ≤ 60 := len_canon h2 hv
          have g2 := below_next b1 b2
          go_wp2_with fail
          refine (cmp_any _ _ _ _ _ _ _ _ _ h2 (hr.below g2) (by omega) (by omega)).mono ?_
          rw [V_canon, cmpI_eq rfl]
          rintro e w3 ⟨rfl, d3⟩
          have g3 := below_next g2 d3.below
          go_wp2_with fail
          refine (zero_any _ _ _ _ _ (hr.below g3) (by omega)).mono ?_
          rw [HZ.out]
          rintro e w4 ⟨rfl, rfl⟩
          go_wp2_with fail
          refine (twosLow_any _ _ _ _ (t : Int) _ (hr.below g3) (by omega) (by omega)).mono ?_
          rw [HN.out]
          rintro e w11 ⟨A11, n11, c11, rfl, h11, b11⟩
          have m11 : n11 ≤ 60 := len_canon h11 HL.out
          have g11 := below_next g3 b11
          go_wp2_with fail
          refine (twosDown_any _ _ _ _ (t : Int) _ (hr.below g11) (by omega) (by omega)).mono ?_
          rw [HN.out]
          rintro e w12 ⟨A12, n12, c12, rfl, h12, b12⟩
          have m12 : n12 ≤ 60 := len_canon h12 HD.out
          have g12 := below_next g11 b12
          go_wp2_with fail
          refine (twosUp_any _ _ _ _ (t : Int) _ h12 (by omega)).mono ?_
          rw [HN.out, HM.out, V_canon]
          rintro e w13 ⟨A13, n13, c13, rfl, h13, b13⟩
          have g13 := below_next g12 b13
          have h11b := (h11.below b12).below b13
          go_wp2_with fail
          refine (addAll_any _ _ _ _ _ 60 (by omega) (rdL_lit2 _ _ _ _ _ _ _ _ _ h13 h11b) (few2 _ _ _ (canon_length_le HX.out) (canon_length_le HL.out))).mono ?_
          rw [HS.out]
          rintro e w14 ⟨A14, n14, c14, rfl, h14, b14⟩
          have m14 : n14 ≤ 60 := len_canon h14 hv
          have g14 := below_next g13 (below_next (below_new _ _) b14)
          go_wp2_with fail
          refine (cmp_any _ _ _ _ _ _ _ _ _ h14 (hr.below g14) (by omega) (by omega)).mono ?_
          rw [V_canon, cmpI_eq rfl]
          rintro e w15 ⟨rfl, d15⟩
          have g15 := below_next g14 d15.below
          go_wp2_with fail
          refine (twosLen_any _ _ _ _ _ ((h11b.below (below_next (below_new _ _) b14)).below d15.below) (by omega)).mono ?_
          rw [V_canon]
          rintro e w16 ⟨rfl, b16⟩
          go_wp2_with fail
          refine (HK.out _ (below_next g15 b16)).mono ?_
          rintro e w17 ⟨rfl, b17⟩
          go_wp2
          go_ret
          exact ⟨rfl, b17⟩
        · have hzb : isZ (V xs) = false := by simp [isZ, hz]
          have HZ := Lib.hid hzb
          obtain ⟨L, hL⟩ : ∃ L, L = blen (V xs * 2 ^ t) := ⟨_, rfl⟩
          obtain ⟨T, hT⟩ : ∃ T, T = tz (V xs * 2 ^ t) := ⟨_, rfl⟩
          have hL2 := blen_mul_pow (V xs) t hz
          have hT2 := tz_mul_pow (V xs) t hz
          have htz : tz (V xs) ≤ 1920 := by
            have := tz_words hz hv
            omega
          rw [← hL] at hL2
          rw [← hT] at hT2
          obtain ⟨l, hl⟩ : ∃ l, l = blen (V xs) := ⟨_, rfl⟩
          obtain ⟨z, hz2⟩ : ∃ z, z = tz (V xs) := ⟨_, rfl⟩
          rw [← hl] at hL2 hbl
          rw [← hz2] at hT2 htz
          have r1 : (l : Int) + (t : Int) = (L : Int) := by omega
          have r2 : (z : Int) + (t : Int) = (T : Int) := by omega
          have HL2 := Lib.hid hL
          have HT2 := Lib.hid hT
          have Hl := Lib.hid hl
          have Hz := Lib.hid hz2
          clear hz hzb hL hT hL2 hT2 hl hz2
          go_enter Try.func19, Try.ntmps19
          go_wp2_with fail
          refine (twosUp_any _ _ _ _ (t : Int) _ hr (by omega)).mono ?_
          rw [HN.out, HM.out]
          rintro e w1 ⟨A1, n1, c1, rfl, h1, b1⟩
          have m1 : n1 ≤ 60 + 128 := len_canon h1 HU.out
          go_wp2_with fail
          refine (twosDown_any _ _ _ _ (t : Int) _ h1 (by omega) (by omega)).mono ?_
          rw [HN.out, V_canon, HB.out]
          rintro e w2 ⟨A2, n2, c2, rfl, h2, b2⟩
          have m2 : n2 ≤ 60 := len_canon h2 hv
          have g2 := below_next b1 b2
          go_wp2_with fail
          refine (cmp_any _ _ _ _ _ _ _ _ _ h2 (hr.below g2) (by omega) (by omega)).mono ?_
          rw [V_canon, cmpI_eq rfl]
          rintro e w3 ⟨rfl, d3⟩
          have g3a := below_next g2 d3.below
          go_wp2_with fail
          refine (zero_any _ _ _ _ _ (hr.below g3a) (by omega)).mono ?_
          rw [HZ.out]
          rintro e w4 ⟨rfl, rfl⟩
          have h1a := (h1.below b2).below d3.below
          go_wp2_with fail
          refine (twosLen_any _ _ _ _ _ h1a (by omega)).mono ?_
          rw [V_canon, ← HL2.out]
          rintro e w5 ⟨rfl, b5⟩
          have g5 := below_next g3a b5
          go_wp2_with fail
          refine (twosLen_any _ _ _ _ _ (hr.below g5) (by omega)).mono ?_
          rw [← Hl.out]
          rintro e w6 ⟨rfl, b6⟩
          have g3 := below_next g5 b6
          go_wp2_with fail
          refine (twosZeros_any _ _ _ _ _ ((h1a.below b5).below b6) (by omega)).mono ?_
          rw [V_canon, ← HT2.out]
          rintro e w7 ⟨rfl, rfl⟩
          go_wp2_with fail
          refine (twosZeros_any _ _ _ _ _ (hr.below g3) (by omega)).mono ?_
          rw [← Hz.out]
          rintro e w7 ⟨rfl, rfl⟩
          go_wp2_with fail
          refine (twosLow_any _ _ _ _ (t : Int) _ (hr.below g3) (by omega) (by omega)).mono ?_
          rw [HN.out]
          rintro e w11 ⟨A11, n11, c11, rfl, h11, b11⟩
          have m11 : n11 ≤ 60 := len_canon h11 HL.out
          have g11 := below_next g3 b11
          go_wp2_with fail
          refine (twosDown_any _ _ _ _ (t : Int) _ (hr.below g11) (by omega) (by omega)).mono ?_
          rw [HN.out]
          rintro e w12 ⟨A12, n12, c12, rfl, h12, b12⟩
          have m12 : n12 ≤ 60 := len_canon h12 HD.out
          have g12 := below_next g11 b12
          go_wp2_with fail
          refine (twosUp_any _ _ _ _ (t : Int) _ h12 (by omega)).mono ?_
          rw [HN.out, HM.out, V_canon]
          rintro e w13 ⟨A13, n13, c13, rfl, h13, b13⟩
          have g13 := below_next g12 b13
          have h11b := (h11.below b12).below b13
          go_wp2_with fail
          refine (addAll_any _ _ _ _ _ 60 (by omega) (rdL_lit2 _ _ _ _ _ _ _ _ _ h13 h11b) (few2 _ _ _ (canon_length_le HX.out) (canon_length_le HL.out))).mono ?_
          rw [HS.out]
          rintro e w14 ⟨A14, n14, c14, rfl, h14, b14⟩
          have m14 : n14 ≤ 60 := len_canon h14 hv
          have g14 := below_next g13 (below_next (below_new _ _) b14)
          go_wp2_with fail
          refine (cmp_any _ _ _ _ _ _ _ _ _ h14 (hr.below g14) (by omega) (by omega)).mono ?_
          rw [V_canon, cmpI_eq rfl]
          rintro e w15 ⟨rfl, d15⟩
          have g15 := below_next g14 d15.below
          go_wp2_with fail
          refine (twosLen_any _ _ _ _ _ ((h11b.below (below_next (below_new _ _) b14)).below d15.below) (by omega)).mono ?_
          rw [V_canon]
          rintro e w16 ⟨rfl, b16⟩
          go_wp2_with fail
          refine (HK.out _ (below_next g15 b16)).mono ?_
          rintro e w17 ⟨rfl, b17⟩
          go_wp2
          go_ret
          exact ⟨rfl, b17⟩
      · go_enter Try.func19, Try.ntmps19
        go_wp2_with fail
        refine (works3 _).mono ?_
        rintro e w3 ⟨rfl, b3⟩
        go_wp2
        go_ret
        exact ⟨rfl, b3⟩
    · go_enter Try.func19, Try.ntmps19
      go_wp2_with fail
      refine (works3 _).mono ?_
      rintro e w3 ⟨rfl, b3⟩
      go_wp2
      go_ret
      exact ⟨rfl, b3⟩
  · go_enter Try.func19, Try.ntmps19
    go_wp2_with fail
    refine (works3 _).mono ?_
    rintro e w3 ⟨rfl, b3⟩
    go_wp2
    go_ret
    exact ⟨rfl, b3⟩
end Go.Proofs.Ythkblaodnfanfaa
