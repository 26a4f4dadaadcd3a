/- The law ProdPowers, walked. -/
import Derived.Test.YthkblaodnfanfaaJ
namespace Go.Proofs.Ythkblaodnfanfaa
open Go.RowKit M

theorem blen_of_words {v M : Nat} (hv : v < 4294967296 ^ M) : blen v ≤ 32 * M := blen_le (by rw [← pow32]; exact hv)
theorem powV_len (v : Nat) (t : Int) : (canon (powV v t)).length ≤ 2049 := by
  by_cases ho : powOk v t = true
  · have h0 : 0 ≤ t ∧ (blen v ≤ 1 ∨ t ≤ ((65536 / blen v : Nat) : Int)) := by
      unfold powOk at ho
      rwa [decide_eq_true_eq] at ho
    obtain ⟨s, rfl⟩ := Int.eq_ofNat_of_zero_le h0.1
    rw [powV_yes ho]
    by_cases h1 : blen v ≤ 1
    · rw [pow_small h1]
      refine pow_words v (min s 1) _ 2048 ?_ (Nat.le_refl _)
      have := Nat.mul_le_mul h1 (Nat.min_le_right s 1)
      omega
    · refine pow_words v s _ 2048 ?_ (Nat.le_refl _)
      have h2 : s ≤ 65536 / blen v := by omega
      have := Nat.mul_le_mul_left (blen v) h2
      have h3 := Nat.mul_div_le 65536 (blen v)
      omega
  · rw [powV_no (by simpa using ho)]
    simp

set_option maxHeartbeats 4000000 in
theorem prodPowers_any (A : Option Addr) (n c : Nat) (xs : List Nat) (e : Int) (w : World) (hr : Rd w A n c xs) (he0 : -9223372036854775808 ≤ e) (he1 : e ≤ 9223372036854775807) :
    Calls Try.prog 14 #[.slice A n c, .int .i64 e] w fun e w' => e = .returned (.bool true) ∧ Below w.heap.size w w' := by
  by_cases hn : n ≤ 10
  · have HP := Lib.hid (powV_len (V xs) e)
    obtain ⟨l, hl⟩ : ∃ l, l = blen (V xs) := ⟨_, rfl⟩
    have hll : l ≤ 32 * 10 := by
      rw [hl]
      exact blen_of_words (V_lt_of_len hr hn)
    have HL := Lib.hid hl
    clear hl
    by_cases h1 : 0 < e
    · by_cases h2 : e < 65537
      · obtain ⟨p, hp⟩ : ∃ p : Int, e * (l : Int) = p := ⟨_, rfl⟩
        have hp0 : 0 ≤ p := by rw [← hp]; exact Int.mul_nonneg (by omega) (by omega)
        have hp1 : p ≤ 65537 * 320 := by rw [← hp]; exact Int.mul_le_mul (by omega) (by omega) (by omega) (by omega)
        by_cases h3 : 3000 < p
        · by_cases h4 : p ≤ 65536
          · go_enter Try.func14, Try.ntmps14
            go_wp2_with fail
            refine (refLen3_any _ _ _ _ _ hr (by omega)).mono ?_
            rw [← HL.out]
            rintro e w0 ⟨rfl, rfl⟩
            go_wp2_with fail
            refine (refLen3_any _ _ _ _ _ hr (by omega)).mono ?_
            rw [← HL.out]
            rintro e w0 ⟨rfl, rfl⟩
            go_wp2_with fail
            refine (works4 _).mono ?_
            rintro e w3 ⟨rfl, b3⟩
            go_wp2
            go_ret
            exact ⟨rfl, b3⟩
          · go_enter Try.func14, Try.ntmps14
            go_wp2_with fail
            refine (refLen3_any _ _ _ _ _ hr (by omega)).mono ?_
            rw [← HL.out]
            rintro e w0 ⟨rfl, rfl⟩
            go_wp2_with fail
            refine (refLen3_any _ _ _ _ _ hr (by omega)).mono ?_
            rw [← HL.out]
            rintro e w0 ⟨rfl, rfl⟩
            go_wp2_with fail
            refine (pow_any _ _ _ _ e _ hr (by omega) he0 he1).mono ?_
            rintro e w1 ⟨A1, n1, c1, rfl, h1, b1⟩
            have m1 : n1 ≤ 2049 := by rw [← h1.len]; exact HP.out
            go_wp2_with fail
            refine (refPow_any _ _ _ _ _ _ (hr.below b1) (by omega) he0 he1).mono ?_
            rintro e w2 ⟨A2, n2, c2, rfl, h2, b2⟩
            go_wp2_with fail
            refine (same_any _ _ _ _ _ _ _ _ _ (h1.below b2) h2 (by omega)).mono ?_
            rw [sameB_self]
            rintro e w3 ⟨rfl, d3⟩
            have g3 := below_next (below_next b1 b2) d3.below
            go_wp2_with fail
            refine (works4 _).mono ?_
            rintro e w13 ⟨rfl, b13⟩
            go_wp2
            go_ret
            exact ⟨rfl, below_next g3 b13⟩
        · go_enter Try.func14, Try.ntmps14
          go_wp2_with fail
          refine (refLen3_any _ _ _ _ _ hr (by omega)).mono ?_
          rw [← HL.out]
          rintro e w0 ⟨rfl, rfl⟩
          go_wp2_with fail
          refine (pow_any _ _ _ _ e _ hr (by omega) he0 he1).mono ?_
          rintro e w1 ⟨A1, n1, c1, rfl, h1, b1⟩
          have m1 : n1 ≤ 2049 := by rw [← h1.len]; exact HP.out
          go_wp2_with fail
          refine (refPow_any _ _ _ _ _ _ (hr.below b1) (by omega) he0 he1).mono ?_
          rintro e w2 ⟨A2, n2, c2, rfl, h2, b2⟩
          go_wp2_with fail
          refine (same_any _ _ _ _ _ _ _ _ _ (h1.below b2) h2 (by omega)).mono ?_
          rw [sameB_self]
          rintro e w3 ⟨rfl, d3⟩
          have g3 := below_next (below_next b1 b2) d3.below
          go_wp2_with fail
          refine (works4 _).mono ?_
          rintro e w13 ⟨rfl, b13⟩
          go_wp2
          go_ret
          exact ⟨rfl, below_next g3 b13⟩
      · go_enter Try.func14, Try.ntmps14
        go_wp2_with fail
        refine (pow_any _ _ _ _ e _ hr (by omega) he0 he1).mono ?_
        rintro e w1 ⟨A1, n1, c1, rfl, h1, b1⟩
        have m1 : n1 ≤ 2049 := by rw [← h1.len]; exact HP.out
        go_wp2_with fail
        refine (refPow_any _ _ _ _ _ _ (hr.below b1) (by omega) he0 he1).mono ?_
        rintro e w2 ⟨A2, n2, c2, rfl, h2, b2⟩
        go_wp2_with fail
        refine (same_any _ _ _ _ _ _ _ _ _ (h1.below b2) h2 (by omega)).mono ?_
        rw [sameB_self]
        rintro e w3 ⟨rfl, d3⟩
        have g3 := below_next (below_next b1 b2) d3.below
        go_wp2_with fail
        refine (works4 _).mono ?_
        rintro e w13 ⟨rfl, b13⟩
        go_wp2
        go_ret
        exact ⟨rfl, below_next g3 b13⟩
    · go_enter Try.func14, Try.ntmps14
      go_wp2_with fail
      refine (pow_any _ _ _ _ e _ hr (by omega) he0 he1).mono ?_
      rintro e w1 ⟨A1, n1, c1, rfl, h1, b1⟩
      have m1 : n1 ≤ 2049 := by rw [← h1.len]; exact HP.out
      go_wp2_with fail
      refine (refPow_any _ _ _ _ _ _ (hr.below b1) (by omega) he0 he1).mono ?_
      rintro e w2 ⟨A2, n2, c2, rfl, h2, b2⟩
      go_wp2_with fail
      refine (same_any _ _ _ _ _ _ _ _ _ (h1.below b2) h2 (by omega)).mono ?_
      rw [sameB_self]
      rintro e w3 ⟨rfl, d3⟩
      have g3 := below_next (below_next b1 b2) d3.below
      go_wp2_with fail
      refine (works4 _).mono ?_
      rintro e w13 ⟨rfl, b13⟩
      go_wp2
      go_ret
      exact ⟨rfl, below_next g3 b13⟩
  · go_enter Try.func14, Try.ntmps14
    go_wp2_with fail
    refine (works4 _).mono ?_
    rintro e w3 ⟨rfl, b3⟩
    go_wp2
    go_ret
    exact ⟨rfl, b3⟩
end Go.Proofs.Ythkblaodnfanfaa
