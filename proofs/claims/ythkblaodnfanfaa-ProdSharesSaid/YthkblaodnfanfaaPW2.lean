/- The law ProdShares, walked. -/
import Derived.Test.YthkblaodnfanfaaJ
namespace Go.Proofs.Ythkblaodnfanfaa
open Go.RowKit M

set_option maxHeartbeats 4000000 in
theorem prodShares_any (A : Option Addr) (n c : Nat) (xs : List Nat) (B : Option Addr) (k d : Nat) (ys : List Nat) (C : Option Addr) (m f : Nat) (zs : List Nat) (w : World) (hr : Rd w A n c xs) (hs : Rd w B k d ys) (hu : Rd w C m f zs) :
    Calls Try.prog 15 #[.slice A n c, .slice B k d, .slice C m f] w fun e w' => e = .returned (.bool true) ∧ Below w.heap.size w w' := by
  by_cases hn : n ≤ 60
  · by_cases hk : k ≤ 60
    · by_cases hm : m ≤ 60
      · have V1 := Lib.hid (V_lt_of_len hr hn)
        have V2 := Lib.hid (V_lt_of_len hs hk)
        have V3 := Lib.hid (V_lt_of_len hu hm)
        have q1 : V ys * V xs = V xs * V ys := Nat.mul_comm _ _
        have q2 : V xs * (V ys * V zs) = V xs * V ys * V zs := (Nat.mul_assoc _ _ _).symm
        have q3 : tot [ys, zs] = V ys + V zs := by simp [tot]
        have q4 : tot [canon (V xs * V ys), canon (V xs * V zs)] = V xs * (V ys + V zs) := by simp only [tot, V_canon]; rw [Nat.mul_add]; omega
        have q5 : V ys + V zs < 4294967296 ^ (60 + 1) := by
          have h1 := V2.out
          have h2 := V3.out
          rw [Nat.pow_succ]
          omega
        have Q1 := Lib.hid q1
        have Q2 := Lib.hid q2
        have Q3 := Lib.hid q3
        have Q4 := Lib.hid q4
        have Q5 := Lib.hid q5
        have L2 := Lib.hid hs.len
        have L3 := Lib.hid hu.len
        clear q1 q2 q3 q4 q5
        go_enter Try.func15, Try.ntmps15
        go_wp2_with fail
        refine (mul_any _ _ _ _ _ _ _ _ _ hr hs (by omega) (by omega)).mono ?_
        rintro e w1 ⟨A1, n1, c1, rfl, h1, b1⟩
        have m1 : n1 ≤ 60 + 60 := len_canon h1 (mul_lt V1.out V2.out)
        go_wp2_with fail
        refine (mul_any _ _ _ _ _ _ _ _ _ (hs.below b1) (hr.below b1) (by omega) (by omega)).mono ?_
        rw [Q1.out]
        rintro e w2 ⟨A2, n2, c2, rfl, h2, b2⟩
        go_wp2_with fail
        refine (same_any _ _ _ _ _ _ _ _ _ (h1.below b2) h2 (by omega)).mono ?_
        rw [sameB_self]
        rintro e w3 ⟨rfl, d3⟩
        have g3 := below_next (below_next b1 b2) d3.below
        have h1a := (h1.below b2).below d3.below
        go_wp2_with fail
        refine (mul_any _ _ _ _ _ _ _ _ _ h1a (hu.below g3) (by omega) (by omega)).mono ?_
        rw [V_canon]
        rintro e w4 ⟨A4, n4, c4, rfl, h4, b4⟩
        have m4 : n4 ≤ 60 + 60 + 60 := len_canon h4 (mul_lt (mul_lt V1.out V2.out) V3.out)
        have g4 := below_next g3 b4
        go_wp2_with fail
        refine (mul_any _ _ _ _ _ _ _ _ _ (hs.below g4) (hu.below g4) (by omega) (by omega)).mono ?_
        rintro e w5 ⟨A5, n5, c5, rfl, h5, b5⟩
        have m5 : n5 ≤ 60 + 60 := len_canon h5 (mul_lt V2.out V3.out)
        have g5 := below_next g4 b5
        go_wp2_with fail
        refine (mul_any _ _ _ _ _ _ _ _ _ (hr.below g5) h5 (by omega) (by omega)).mono ?_
        rw [V_canon, Q2.out]
        rintro e w6 ⟨A6, n6, c6, rfl, h6, b6⟩
        go_wp2_with fail
        refine (same_any _ _ _ _ _ _ _ _ _ ((h4.below b5).below b6) h6 (by omega)).mono ?_
        rw [sameB_self]
        rintro e w7 ⟨rfl, d7⟩
        have g7 := below_next (below_next g5 b6) d7.below
        have h1b := (((h1a.below b4).below b5).below b6).below d7.below
        go_wp2_with fail
        refine (addAll_any _ _ _ _ _ 60 (by omega) (rdL_lit2 _ _ _ _ _ _ _ _ _ (hs.below g7) (hu.below g7)) (few2 _ _ _ (by rw [L2.out]; exact hk) (by rw [L3.out]; exact hm))).mono ?_
        rw [Q3.out]
        rintro e w8 ⟨A8, n8, c8, rfl, h8, b8⟩
        have m8 : n8 ≤ 60 + 1 := len_canon h8 Q5.out
        have b8' := below_next (below_new _ _) b8
        have g8 := below_next g7 b8'
        go_wp2_with fail
        refine (mul_any _ _ _ _ _ _ _ _ _ (hr.below g8) h8 (by omega) (by omega)).mono ?_
        rw [V_canon]
        rintro e w9 ⟨A9, n9, c9, rfl, h9, b9⟩
        have m9 : n9 ≤ 60 + (60 + 1) := len_canon h9 (mul_lt V1.out Q5.out)
        have g9 := below_next g8 b9
        go_wp2_with fail
        refine (mul_any _ _ _ _ _ _ _ _ _ (hr.below g9) (hu.below g9) (by omega) (by omega)).mono ?_
        rintro e w10 ⟨A10, n10, c10, rfl, h10, b10⟩
        have g10 := below_next g9 b10
        have h1c := ((h1b.below b8').below b9).below b10
        go_wp2_with fail
        refine (addAll_any _ _ _ _ _ 120 (by omega) (rdL_lit2 _ _ _ _ _ _ _ _ _ h1c h10) (few2 _ _ _ (canon_length_le (mul_lt V1.out V2.out)) (canon_length_le (mul_lt V1.out V3.out)))).mono ?_
        rw [Q4.out]
        rintro e w11 ⟨A11, n11, c11, rfl, h11, b11⟩
        have b11' := below_next (below_new _ _) b11
        have g11 := below_next g10 b11'
        go_wp2_with fail
        refine (same_any _ _ _ _ _ _ _ _ _ ((h9.below b10).below b11') h11 (by omega)).mono ?_
        rw [sameB_self]
        rintro e w12 ⟨rfl, d12⟩
        have g12 := below_next g11 d12.below
        go_wp2_with fail
        refine (works4 _).mono ?_
        rintro e w13 ⟨rfl, b13⟩
        go_wp2
        go_ret
        exact ⟨rfl, below_next g12 b13⟩
      · go_enter Try.func15, Try.ntmps15
        go_wp2_with fail
        refine (works4 _).mono ?_
        rintro e w3 ⟨rfl, b3⟩
        go_wp2
        go_ret
        exact ⟨rfl, b3⟩
    · go_enter Try.func15, Try.ntmps15
      go_wp2_with fail
      refine (works4 _).mono ?_
      rintro e w3 ⟨rfl, b3⟩
      go_wp2
      go_ret
      exact ⟨rfl, b3⟩
  · go_enter Try.func15, Try.ntmps15
    go_wp2_with fail
    refine (works4 _).mono ?_
    rintro e w3 ⟨rfl, b3⟩
    go_wp2
    go_ret
    exact ⟨rfl, b3⟩
end Go.Proofs.Ythkblaodnfanfaa
