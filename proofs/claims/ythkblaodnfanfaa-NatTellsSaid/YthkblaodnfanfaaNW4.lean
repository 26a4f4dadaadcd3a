/- The law NatTells, walked. -/
import Derived.Test.YthkblaodnfanfaaG
namespace Go.Proofs.Ythkblaodnfanfaa
open Go.RowKit M

theorem small_of (v : Nat) (h : v < 18446744073709551616) : (canon v).length ≤ 2 ∧ v = (canon v).getD 0 0 + (canon v).getD 1 0 * 4294967296 ∧ smallV v = v ∧ smallB v = true := by
  have hl : (canon v).length ≤ 2 := canon_length_le (by omega)
  refine ⟨hl, ?_, by simp [smallV, h], by simp [smallB, h]⟩
  have h0 := P_all (canon v) 2 hl
  rw [P_succ, P_succ, P_zero, V_canon] at h0
  omega
theorem big_of (v : Nat) (h : ¬ v < 18446744073709551616) : 3 ≤ (canon v).length ∧ smallV v = 0 ∧ smallB v = false := by
  refine ⟨?_, by simp [smallV, h], by simp [smallB, h]⟩
  apply Nat.le_of_not_lt
  intro hl
  have h1 := V_lt (canon_ok v)
  rw [V_canon] at h1
  have h2 : 4294967296 ^ (canon v).length ≤ 4294967296 ^ 2 := Nat.pow_le_pow_right (by omega) (by omega)
  omega
theorem zero_of (v m : Nat) (h : (canon v).length = m) : isZ v = ((m : Int) == 0) := by
  have := canon_nil_iff v
  rw [Bool.eq_iff_iff]
  simp [isZ]
  omega

set_option maxHeartbeats 4000000 in
theorem natTells_any (A : Option Addr) (n c : Nat) (xs : List Nat) (B : Option Addr) (k d : Nat) (ys : List Nat) (v : Nat) (w : World) (hr : Rd w A n c xs) (hs : Rd w B k d ys) (hv : v < 18446744073709551616) :
    Calls Try.prog 12 #[.slice A n c, .slice B k d, .int .u64 v] w fun e w' => e = .returned (.bool true) ∧ Below w.heap.size w w' := by
  by_cases hn : n ≤ 300
  · by_cases hk : k ≤ 300
    · have hcl : (canon (V xs)).length ≤ 300 := by
        have h1 := canon_length_le (V_lt hr.ok)
        rw [hr.len] at h1
        omega
      have hsmall := fun (W : World) => small_any A n c xs W
      by_cases hb : V xs < 18446744073709551616
      · obtain ⟨s1, s2, s3, s4⟩ := small_of _ hb
        rw [s3, s4] at hsmall
        obtain ⟨x, hx⟩ : ∃ x : Nat, (canon (V xs)).getD 0 0 = x := ⟨_, rfl⟩
        obtain ⟨y, hy⟩ : ∃ y : Nat, (canon (V xs)).getD 1 0 = y := ⟨_, rfl⟩
        have hxl : x < 4294967296 := by rw [← hx]; exact (canon_ok _).at 0
        have hyl : y < 4294967296 := by rw [← hy]; exact (canon_ok _).at 1
        rw [hx, hy] at s2
        have hval : (x : Int) + (y : Int) * 4294967296 = ((V xs : Nat) : Int) := by omega
        have HX := Lib.hid hx
        have HY := Lib.hid hy
        have HS := Lib.hid hsmall
        clear hsmall s2 s3 s4 hx hy
        go_enter Try.func12, Try.ntmps12
        go_wp2_with fail
        refine (HS.out _ hr (by omega)).mono ?_
        rintro e w1 ⟨rfl, rfl⟩
        go_wp2_with fail
        refine (refNorm_any _ _ _ _ _ hr (by omega)).mono ?_
        rintro e w2 ⟨A2, n2, c2, rfl, h2, d2⟩
        have m2 : n2 ≤ 300 := by rw [← h2.len]; exact hcl
        have l2 : n2 ≤ 2 := by rw [← h2.len]; exact s1
        have H2L := Lib.hid h2.len
        go_wp2_with fail
        refine (at_any _ _ _ _ 0 x _ h2 HX).mono ?_
        rintro e w3 ⟨rfl, rfl⟩
        go_wp2_with fail
        refine (at_any _ _ _ _ 1 y _ h2 HY).mono ?_
        rintro e w3 ⟨rfl, rfl⟩
        go_wp2_with fail
        refine (norm_any _ _ _ _ _ (hr.below d2) (by omega)).mono ?_
        rintro e w3 ⟨A3, n3, c3, rfl, h3, d3⟩
        have m3 : n3 ≤ 300 := by rw [← h3.len, H2L.out]; exact m2
        go_wp2_with fail
        refine (same_any _ _ _ _ _ _ _ _ _ h3 (h2.below d3) (by omega)).mono ?_
        rw [sameB_self]
        rintro e w4 ⟨rfl, d4⟩
        have g4 := below_next (below_next d2 d3) d4.below
        go_wp2_with fail
        refine (of_any v _ hv).mono ?_
        rintro e w5 ⟨A5, n5, c5, rfl, h5, d5⟩
        have m5 : n5 ≤ 2 := by rw [← h5.len]; exact canon_length_le (by omega)
        go_wp2_with fail
        refine (refOf_any v _ hv).mono ?_
        rintro e w6 ⟨A6, n6, c6, rfl, h6, d6⟩
        go_wp2_with fail
        refine (same_any _ _ _ _ _ _ _ _ _ (h5.below d6) h6 (by omega)).mono ?_
        rw [sameB_self]
        rintro e w7 ⟨rfl, d7⟩
        have g7 := below_next (below_next (below_next g4 d5) d6) d7.below
        go_wp2_with fail
        refine (zero_any _ _ _ _ _ (hr.below g7) (by omega)).mono ?_
        rw [zero_of _ _ H2L.out]
        rintro e w8 ⟨rfl, rfl⟩
        go_wp2_with fail
        refine (cmp_any _ _ _ _ _ _ _ _ _ (hr.below g7) (hs.below g7) (by omega) (by omega)).mono ?_
        rintro e w9 ⟨rfl, d9⟩
        have g9 := below_next g7 d9.below
        go_wp2_with fail
        refine (refCmp_any _ _ _ _ _ _ _ _ _ (hr.below g9) (hs.below g9) (by omega) (by omega)).mono ?_
        rintro e w10 ⟨rfl, rfl⟩
        go_wp2_with fail
        refine (works2 _).mono ?_
        rintro e w11 ⟨rfl, d11⟩
        go_wp2
        go_ret
        exact ⟨rfl, below_next g9 d11⟩
      · obtain ⟨s1, s3, s4⟩ := big_of _ hb
        rw [s3, s4] at hsmall
        have HS := Lib.hid hsmall
        clear hsmall s3 s4
        go_enter Try.func12, Try.ntmps12
        go_wp2_with fail
        refine (HS.out _ hr (by omega)).mono ?_
        rintro e w1 ⟨rfl, rfl⟩
        go_wp2_with fail
        refine (refNorm_any _ _ _ _ _ hr (by omega)).mono ?_
        rintro e w2 ⟨A2, n2, c2, rfl, h2, d2⟩
        have m2 : n2 ≤ 300 := by rw [← h2.len]; exact hcl
        have l2 : 3 ≤ n2 := by rw [← h2.len]; exact s1
        have hd2 : decide ((n2 : Int) ≤ 2) = false := by
          rw [decide_eq_false_iff_not]
          omega
        have H2L := Lib.hid h2.len
        go_wp2_with fail
        refine (norm_any _ _ _ _ _ (hr.below d2) (by omega)).mono ?_
        rintro e w3 ⟨A3, n3, c3, rfl, h3, d3⟩
        have m3 : n3 ≤ 300 := by rw [← h3.len, H2L.out]; exact m2
        go_wp2_with fail
        refine (same_any _ _ _ _ _ _ _ _ _ h3 (h2.below d3) (by omega)).mono ?_
        rw [sameB_self]
        rintro e w4 ⟨rfl, d4⟩
        have g4 := below_next (below_next d2 d3) d4.below
        go_wp2_with fail
        refine (of_any v _ hv).mono ?_
        rintro e w5 ⟨A5, n5, c5, rfl, h5, d5⟩
        have m5 : n5 ≤ 2 := by rw [← h5.len]; exact canon_length_le (by omega)
        go_wp2_with fail
        refine (refOf_any v _ hv).mono ?_
        rintro e w6 ⟨A6, n6, c6, rfl, h6, d6⟩
        go_wp2_with fail
        refine (same_any _ _ _ _ _ _ _ _ _ (h5.below d6) h6 (by omega)).mono ?_
        rw [sameB_self]
        rintro e w7 ⟨rfl, d7⟩
        have g7 := below_next (below_next (below_next g4 d5) d6) d7.below
        go_wp2_with fail
        refine (zero_any _ _ _ _ _ (hr.below g7) (by omega)).mono ?_
        rw [zero_of _ _ H2L.out]
        rintro e w8 ⟨rfl, rfl⟩
        go_wp2_with fail
        refine (cmp_any _ _ _ _ _ _ _ _ _ (hr.below g7) (hs.below g7) (by omega) (by omega)).mono ?_
        rintro e w9 ⟨rfl, d9⟩
        have g9 := below_next g7 d9.below
        go_wp2_with fail
        refine (refCmp_any _ _ _ _ _ _ _ _ _ (hr.below g9) (hs.below g9) (by omega) (by omega)).mono ?_
        rintro e w10 ⟨rfl, rfl⟩
        go_wp2_with fail
        refine (works2 _).mono ?_
        rintro e w11 ⟨rfl, d11⟩
        go_wp2
        go_ret
        exact ⟨rfl, below_next g9 d11⟩
    · go_enter Try.func12, Try.ntmps12
      go_wp2_with fail
      refine (works2 _).mono ?_
      rintro e w6 ⟨rfl, b6⟩
      go_wp2
      go_ret
      exact ⟨rfl, b6⟩
  · go_enter Try.func12, Try.ntmps12
    go_wp2_with fail
    refine (works2 _).mono ?_
    rintro e w6 ⟨rfl, b6⟩
    go_wp2
    go_ret
    exact ⟨rfl, b6⟩
end Go.Proofs.Ythkblaodnfanfaa
