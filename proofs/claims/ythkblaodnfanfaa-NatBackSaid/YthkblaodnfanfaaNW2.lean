/- The law NatBack, walked. -/
import Derived.Test.YthkblaodnfanfaaG
namespace Go.Proofs.Ythkblaodnfanfaa
open Go.RowKit M

theorem len_of {w : World} {A : Option Addr} {n c v M : Nat} (h : Rd w A n c (canon v)) (hv : v < 4294967296 ^ M) : n ≤ M := by
  rw [← h.len]; exact canon_length_le hv
theorem V_lt_len {w : World} {A : Option Addr} {n c M : Nat} {xs : List Nat} (h : Rd w A n c xs) (hn : n ≤ M) : V xs < 4294967296 ^ M := by
  have h1 := V_lt h.ok
  rw [h.len] at h1
  exact Nat.lt_of_lt_of_le h1 (Nat.pow_le_pow_right (by omega) hn)
theorem pow_next (M : Nat) : 4294967296 ^ (M + 1) = 4294967296 ^ M * 4294967296 := Nat.pow_succ ..

set_option maxHeartbeats 4000000 in
theorem natBack_any (A : Option Addr) (n c : Nat) (xs : List Nat) (B : Option Addr) (k d : Nat) (ys : List Nat) (C : Option Addr) (m f : Nat) (zs : List Nat) (w : World) (hr : Rd w A n c xs) (hs : Rd w B k d ys) (hu : Rd w C m f zs) :
    Calls Try.prog 9 #[.slice A n c, .slice B k d, .slice C m f] w fun e w' => e = .returned (.bool true) ∧ Below w.heap.size w w' := by
  by_cases hn : n ≤ 200
  · by_cases hk : k ≤ 200
    · by_cases hm : m ≤ 200
      · have v1 := V_lt_len hr hn
        have v2 := V_lt_len hs hk
        have v3 := V_lt_len hu hm
        have l1 := hr.len
        have l2 := hs.len
        have l3 := hu.len
        have tsum : tot [xs, ys, zs] = V xs + V ys + V zs := by simp [tot]; omega
        have tsum2 : tot [ys, xs] = V xs + V ys := by simp [tot]; omega
        have b1 : (canon (V xs + V ys + V zs)).length ≤ 201 := canon_length_le (by rw [pow_next]; omega)
        have b2 : (canon (V xs + V ys)).length ≤ 201 := canon_length_le (by rw [pow_next]; omega)
        have b3 : (canon (V xs)).length ≤ 200 := canon_length_le v1
        have q1 : V xs + V ys + V zs - V zs = V xs + V ys := by omega
        have q2 : V xs + V ys - V ys = V xs := by omega
        have q3 : tot [zs, canon (V xs + V ys)] = V xs + V ys + V zs := by simp [tot, V_canon]; omega
        have q4 : geB (V xs + V ys + V zs) (V zs) = true := by simp [geB]
        have q5 : geB (V xs + V ys) (V ys) = true := by simp [geB]
        have q6 : 0 ≤ cmpI (V xs + V ys + V zs) (V xs) := by
          have := cmpI_neg (a := V xs + V ys + V zs) (b := V xs)
          omega
        have Q1 := Lib.hid q1
        have Q2 := Lib.hid q2
        have Q3 := Lib.hid q3
        have Q4 := Lib.hid q4
        have Q5 := Lib.hid q5
        have Q6 := Lib.hid q6
        have T1 := Lib.hid tsum
        have T2 := Lib.hid tsum2
        have L1 := Lib.hid l1
        have L2 := Lib.hid l2
        have L3 := Lib.hid l3
        clear q1 q2 q3 q4 q5 q6 tsum tsum2 v1 v2 v3 l1 l2 l3
        go_enter Try.func9, Try.ntmps9
        go_wp2_with fail
        refine (addAll_any _ _ _ _ _ 200 (by omega) (rdL_lit3 _ _ _ _ _ _ _ _ _ _ _ _ _ hr hs hu) (few3 _ _ _ _ (by rw [L1.out]; exact hn) (by rw [L2.out]; exact hk) (by rw [L3.out]; exact hm))).mono ?_
        rintro e w1 ⟨A1, n1, c1, rfl, h1, d1⟩
        rw [T1.out] at h1
        have m1 : n1 ≤ 201 := by rw [← h1.len]; exact b1
        have g1 := below_next (below_new _ _) d1
        go_wp2_with fail
        refine (sub_any _ _ _ _ _ _ _ _ _ h1 (hu.below g1) (by omega) (by omega)).mono ?_
        rw [V_canon, Q1.out, Q4.out]
        rintro e w2 ⟨A2, n2, c2, rfl, h2, d2⟩
        have m2 : n2 ≤ 201 := by rw [← h2.len]; exact b2
        have g2 := below_next g1 d2
        go_wp2_with fail
        refine (sub_any _ _ _ _ _ _ _ _ _ h2 (hs.below g2) (by omega) (by omega)).mono ?_
        rw [V_canon, Q2.out, Q5.out]
        rintro e w3 ⟨A3, n3, c3, rfl, h3, d3⟩
        have m3 : n3 ≤ 200 := by rw [← h3.len]; exact b3
        have g3 := below_next g2 d3
        go_wp2_with fail
        refine (cmp_any _ _ _ _ _ _ _ _ _ h3 (hr.below g3) (by omega) (by omega)).mono ?_
        rw [V_canon, cmpI_eq rfl]
        rintro e w4 ⟨rfl, d4⟩
        have g4 := below_next g3 d4.below
        go_wp2_with fail
        refine (addAll_any _ _ _ _ _ 200 (by omega) (rdL_lit2 _ _ _ _ _ _ _ _ _ (hs.below g4) (hr.below g4)) (few2 _ _ _ (by rw [L2.out]; exact hk) (by rw [L1.out]; exact hn))).mono ?_
        rintro e w5 ⟨A5, n5, c5, rfl, h5, d5⟩
        rw [T2.out] at h5
        have g5 := below_next g4 (below_next (below_new _ _) d5)
        go_wp2_with fail
        refine (addAll_any _ _ _ _ _ 201 (by omega) (rdL_lit2 _ _ _ _ _ _ _ _ _ (hu.below g5) h5) (few2 _ _ _ (by rw [L3.out]; omega) b2)).mono ?_
        rintro e w6 ⟨A6, n6, c6, rfl, h6, d6⟩
        rw [Q3.out] at h6
        have g56 := below_next (below_new _ _) d6
        have g6 := below_next g5 g56
        have h1' := ((((h1.below d2).below d3).below d4.below).below (below_next (below_new _ _) d5)).below g56
        go_wp2_with fail
        refine (same_any _ _ _ _ _ _ _ _ _ h1' h6 (by omega)).mono ?_
        rw [sameB_self]
        rintro e w7 ⟨rfl, d7⟩
        have g7 := below_next g6 d7.below
        have q6 := Q6.out
        go_wp2_with fail
        refine (cmp_any _ _ _ _ _ _ _ _ _ (h1'.below d7.below) (hr.below g7) (by omega) (by omega)).mono ?_
        rw [V_canon]
        rintro e w8 ⟨rfl, d8⟩
        have g8 := below_next g7 d8.below
        go_wp2_with fail
        refine (works2 _).mono ?_
        rintro e w9 ⟨rfl, d9⟩
        go_wp2
        go_ret
        exact ⟨rfl, below_next g8 d9⟩
      · go_enter Try.func9, Try.ntmps9
        go_wp2_with fail
        refine (works2 _).mono ?_
        rintro e w6 ⟨rfl, b6⟩
        go_wp2
        go_ret
        exact ⟨rfl, b6⟩
    · go_enter Try.func9, Try.ntmps9
      go_wp2_with fail
      refine (works2 _).mono ?_
      rintro e w6 ⟨rfl, b6⟩
      go_wp2
      go_ret
      exact ⟨rfl, b6⟩
  · go_enter Try.func9, Try.ntmps9
    go_wp2_with fail
    refine (works2 _).mono ?_
    rintro e w6 ⟨rfl, b6⟩
    go_wp2
    go_ret
    exact ⟨rfl, b6⟩
end Go.Proofs.Ythkblaodnfanfaa
