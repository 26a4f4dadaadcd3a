/- The law NatTakes, walked. -/
import Derived.Test.YthkblaodnfanfaaG
namespace Go.Proofs.Ythkblaodnfanfaa
open Go.RowKit M

theorem canon_len_of_le {v : Nat} {xs : List Nat} (ho : Ok xs) (h : v ≤ V xs) : (canon v).length ≤ xs.length :=
  canon_length_le (Nat.lt_of_le_of_lt h (V_lt ho))

set_option maxHeartbeats 4000000 in
theorem natTakes_any (A : Option Addr) (n c : Nat) (xs : List Nat) (B : Option Addr) (k d : Nat) (ys : List Nat) (w : World) (hr : Rd w A n c xs) (hs : Rd w B k d ys) :
    Calls Try.prog 11 #[.slice A n c, .slice B k d] w fun e w' => e = .returned (.bool true) ∧ Below w.heap.size w w' := by
  by_cases hn : n ≤ 300
  · by_cases hk : k ≤ 300
    · by_cases hlt : V xs < V ys
      · have hsub := fun (W : World) (h1 : Rd W A n c xs) (h2 : Rd W B k d ys) => sub_any A B n c k d xs ys W h1 h2 (by omega) (by omega)
        have hgap := fun (W : World) (h1 : Rd W A n c xs) (h2 : Rd W B k d ys) => gap_any A B n c k d xs ys W h1 h2 (by omega) (by omega)
        have hcmp := fun (W : World) (h1 : Rd W A n c xs) (h2 : Rd W B k d ys) => refCmp_any A B n c k d xs ys W h1 h2 (by omega) (by omega)
        have z1 : V xs - V ys = 0 := by omega
        have z2 : geB (V xs) (V ys) = false := by simp [geB]; omega
        have z3 := cmpI_lt hlt
        rw [z1, Nat.zero_add, z3] at hgap
        rw [z1, z2, canon_zero] at hsub
        rw [z3] at hcmp
        have HS := Lib.hid hsub
        have HG := Lib.hid hgap
        have HC := Lib.hid hcmp
        clear hsub hgap hcmp z1 z2 z3
        have hl2 := canon_len_of_le (v := V ys - V xs) hs.ok (by omega)
        rw [hs.len] at hl2
        go_enter Try.func11, Try.ntmps11
        go_wp2_with fail
        refine (HS.out _ hr hs).mono ?_
        rintro e w1 ⟨A1, n1, c1, rfl, h1, b1⟩
        obtain rfl : n1 = 0 := h1.len.symm
        go_wp2_with fail
        refine (HG.out _ (hr.below b1) (hs.below b1)).mono ?_
        rintro e w2 ⟨A2, n2, c2, rfl, h2, b2⟩
        have g2 := below_next b1 b2
        have m2 := h2.len
        go_wp2_with fail
        refine (HC.out _ (hr.below g2) (hs.below g2)).mono ?_
        rintro e w3 ⟨rfl, rfl⟩
        go_wp2_with fail
        refine (refSub2_any _ _ _ _ _ _ _ _ _ (hs.below g2) (hr.below g2) (by omega) (by omega) (by omega)).mono ?_
        rintro e w4 ⟨A4, n4, c4, rfl, h4, b4⟩
        go_wp2_with fail
        refine (same_any _ _ _ _ _ _ _ _ _ (h2.below b4) h4 (by omega)).mono ?_
        rw [sameB_self]
        rintro e w5 ⟨rfl, d5⟩
        have g5 := below_next (below_next g2 b4) d5.below
        clear m2
        go_wp2_with fail
        refine (works2 _).mono ?_
        rintro e w6 ⟨rfl, b6⟩
        go_wp2
        go_ret
        exact ⟨rfl, below_next g5 b6⟩
      · have hsub := fun (W : World) (h1 : Rd W A n c xs) (h2 : Rd W B k d ys) => sub_any A B n c k d xs ys W h1 h2 (by omega) (by omega)
        have hgap := fun (W : World) (h1 : Rd W A n c xs) (h2 : Rd W B k d ys) => gap_any A B n c k d xs ys W h1 h2 (by omega) (by omega)
        have hcmp := fun (W : World) (h1 : Rd W A n c xs) (h2 : Rd W B k d ys) => refCmp_any A B n c k d xs ys W h1 h2 (by omega) (by omega)
        have z1 : V ys - V xs = 0 := by omega
        have z2 : geB (V xs) (V ys) = true := by simp [geB]; omega
        have z3 : 0 ≤ cmpI (V xs) (V ys) := by
          have := cmpI_neg (a := V xs) (b := V ys)
          omega
        generalize cmpI (V xs) (V ys) = q at *
        rw [z1, Nat.add_zero] at hgap
        rw [z2] at hsub
        have HS := Lib.hid hsub
        have HG := Lib.hid hgap
        have HC := Lib.hid hcmp
        clear hsub hgap hcmp z1 z2
        have hl2 := canon_len_of_le (v := V xs - V ys) hr.ok (by omega)
        rw [hr.len] at hl2
        go_enter Try.func11, Try.ntmps11
        go_wp2_with fail
        refine (HS.out _ hr hs).mono ?_
        rintro e w1 ⟨A1, n1, c1, rfl, h1, b1⟩
        have m1 : n1 ≤ 300 := by rw [← h1.len]; omega
        go_wp2_with fail
        refine (HG.out _ (hr.below b1) (hs.below b1)).mono ?_
        rintro e w2 ⟨A2, n2, c2, rfl, h2, b2⟩
        have g2 := below_next b1 b2
        have m2 : n2 ≤ 300 := by rw [← h2.len]; omega
        go_wp2_with fail
        refine (HC.out _ (hr.below g2) (hs.below g2)).mono ?_
        rintro e w3 ⟨rfl, rfl⟩
        go_wp2_with fail
        refine (refSub2_any _ _ _ _ _ _ _ _ _ (hr.below g2) (hs.below g2) (by omega) (by omega) (by omega)).mono ?_
        rintro e w4 ⟨A4, n4, c4, rfl, h4, b4⟩
        go_wp2_with fail
        refine (same_any _ _ _ _ _ _ _ _ _ ((h1.below b2).below b4) h4 (by omega)).mono ?_
        rw [sameB_self]
        rintro e w5 ⟨rfl, d5⟩
        go_wp2_with fail
        refine (same_any _ _ _ _ _ _ _ _ _ ((h2.below b4).below d5.below) (((h1.below b2).below b4).below d5.below) (by omega)).mono ?_
        rw [sameB_self]
        rintro e w6 ⟨rfl, d6⟩
        have g6 := below_next (below_next (below_next g2 b4) d5.below) d6.below
        go_wp2_with fail
        refine (works2 _).mono ?_
        rintro e w7 ⟨rfl, b7⟩
        go_wp2
        go_ret
        exact ⟨rfl, below_next g6 b7⟩
    · go_enter Try.func11, Try.ntmps11
      go_wp2_with fail
      refine (works2 _).mono ?_
      rintro e w6 ⟨rfl, b6⟩
      go_wp2
      go_ret
      exact ⟨rfl, b6⟩
  · go_enter Try.func11, Try.ntmps11
    go_wp2_with fail
    refine (works2 _).mono ?_
    rintro e w6 ⟨rfl, b6⟩
    go_wp2
    go_ret
    exact ⟨rfl, b6⟩
end Go.Proofs.Ythkblaodnfanfaa
