/- The laws of layer 1, walked: each returns true and leaves the world as it was (but for draws). -/
import Derived.Test.YthkblaodnfanfaaL
namespace Go.Proofs.Ythkblaodnfanfaa
open Go.RowKit M

theorem blen8 : blen 8 = 4 := blen_eq (k := 3) (by decide) (by decide)
theorem tzw8 : tzw 8 = 3 := by
  rw [tzw_pos (by omega), tz_shift 3 8 (by decide) (by omega)]
  have : tz (8 / 2 ^ 3) = 0 := tz_odd (by decide)
  omega
theorem limbLen8 (w : World) : Calls Try.prog 20 #[.int .u32 8] w fun e w' => e = .returned (.int .i64 4) ∧ w = w' := by
  have h := limbLen_any 8 w (by omega)
  rw [blen8] at h
  exact h
theorem limbZeros8 (w : World) : Calls Try.prog 22 #[.int .u32 8] w fun e w' => e = .returned (.int .i64 3) ∧ w = w' := by
  have h := limbZeros_any 8 w (by omega)
  rw [tzw8] at h
  exact h

set_option maxHeartbeats 400000 in
theorem works1 (w : World) : Calls Try.prog 24 #[] w fun e w' => e = .returned (.bool true) ∧ w = w' := by
  go_enter Try.func24, Try.ntmps24
  go_wp2_with (first
    | (go_at_call 20; refine (limbLen8 _).mono ?_; rintro e w' ⟨rfl, rfl⟩)
    | (go_at_call 22; refine (limbZeros8 _).mono ?_; rintro e w' ⟨rfl, rfl⟩)
    | (go_at_call 25; go_in))
  go_ret
  exact ⟨rfl, rfl⟩

set_option maxHeartbeats 400000 in
theorem limbBits_any (x : Nat) (w : World) (hx : x < 4294967296) :
    Calls Try.prog 3 #[.int .u32 x] w fun e w' => e = .returned (.bool true) ∧ w = w' := by
  go_enter Try.func3, Try.ntmps3
  go_wp2_with (first
    | (go_at_call 20; refine (limbLen_any _ _ hx).mono ?_; rintro e w' ⟨rfl, rfl⟩)
    | (go_at_call 21; refine (refLen_any _ _ hx).mono ?_; rintro e w' ⟨rfl, rfl⟩)
    | (go_at_call 22; refine (limbZeros_any _ _ hx).mono ?_; rintro e w' ⟨rfl, rfl⟩)
    | (go_at_call 23; refine (refZeros_any _ _ hx).mono ?_; rintro e w' ⟨rfl, rfl⟩)
    | (go_at_call 24; refine (works1 _).mono ?_; rintro e w' ⟨rfl, rfl⟩))
  go_ret
  exact ⟨rfl, rfl⟩

set_option maxHeartbeats 400000 in
theorem limbAdds_any (x y c : Nat) (w : World) (hx : x < 4294967296) (hy : y < 4294967296) (hc : c < 4294967296) :
    Calls Try.prog 4 #[.int .u32 x, .int .u32 y, .int .u32 c] w fun e w' => e = .returned (.bool true) ∧ w = w' := by
  go_enter Try.func4, Try.ntmps4
  go_wp2_with (first
    | (go_at_call 25; refine (limbAdd_any _ _ _ _ hx hy hc).mono ?_; rintro e w' ⟨rfl, rfl⟩)
    | (go_at_call 26; refine (refAdd_any _ _ _ _ hx hy hc).mono ?_; rintro e w' ⟨rfl, rfl⟩)
    | (go_at_call 27; refine (limbSub_any _ _ _ _ hx hy hc).mono ?_; rintro e w' ⟨rfl, rfl⟩)
    | (go_at_call 28; refine (refSub_any _ _ _ _ hx hy hc).mono ?_; rintro e w' ⟨rfl, rfl⟩)
    | (go_at_call 24; refine (works1 _).mono ?_; rintro e w' ⟨rfl, rfl⟩))
  go_ret
  exact ⟨rfl, rfl⟩

set_option maxHeartbeats 1000000 in
theorem limbTimes_any (x y c d : Nat) (w : World) (hx : x < 4294967296) (hy : y < 4294967296) (hc : c < 4294967296) (hd : d < 4294967296) :
    Calls Try.prog 5 #[.agg #[.int .u32 x, .int .u32 y, .int .u32 c, .int .u32 d]] w fun e w' => e = .returned (.bool true) ∧ Below w.heap.size w w' := by
  go_enter Try.func5, Try.ntmps5
  go_wp2_with (first
    | (go_at_call 29; refine (limbMul_any _ _ _ _ _ hx hy hc hd).mono ?_; rintro e w' ⟨rfl, rfl⟩)
    | (go_at_call 30; refine (refMul_any _ _ _ _ _ hx hy hc hd).mono ?_; rintro e w' ⟨rfl, rfl⟩)
    | (go_at_call 31; refine (limbDiv_any _ _ _ _ hx hy hc).mono ?_; rintro e w' ⟨rfl, n, rfl⟩)
    | (go_at_call 32; refine (refDiv_any _ _ _ _ hx hy hc).mono ?_; rintro e w' ⟨rfl, rfl⟩)
    | (go_at_call 24; refine (works1 _).mono ?_; rintro e w' ⟨rfl, rfl⟩))
  go_ret
  exact ⟨rfl, below_drewN ((Below.refl _ _).alloc (Nat.le_refl _) _) _⟩

theorem difLo_sum (x y c : Nat) (hx : x < 4294967296) (hy : y < 4294967296) (hc : c < 4294967296) : difLo (sumLo x y c) y c = x ∧ difHi (sumLo x y c) y c = sumHi x y c := by
  unfold difLo difHi sumLo sumHi
  omega

set_option maxHeartbeats 1000000 in
theorem limbBack_any (x y c d : Nat) (w : World) (hx : x < 4294967296) (hy : y < 4294967296) (hc : c < 4294967296) (hd : d < 4294967296) :
    Calls Try.prog 6 #[.agg #[.int .u32 x, .int .u32 y, .int .u32 c, .int .u32 d]] w fun e w' => e = .returned (.bool true) ∧ Below w.heap.size w w' := by
  have hs : sumLo x y c < 4294967296 := Nat.mod_lt _ (by omega)
  obtain ⟨e1, e2⟩ := difLo_sum x y c hx hy hc
  have hsub := fun W => limbSub_any (sumLo x y c) y c W hs hy hc
  rw [e1, e2] at hsub
  clear e1 e2
  have hdv := fun W => limbDiv_any x y d W hx hy hd
  by_cases hlt : x < d
  · have hok : divOk x d = true := by simp [divOk, hlt]
    rw [hok] at hdv
    clear hok
    have hsplit : divQ x y d * d + divR x y d = x * 4294967296 + y ∧ divR x y d < d ∧ divQ x y d < 4294967296 := by
      unfold divQ divR
      rw [if_pos hlt, if_pos hlt]
      refine ⟨by rw [Nat.mul_comm]; exact Nat.div_add_mod _ _, Nat.mod_lt _ (by omega), ?_⟩
      rw [Nat.div_lt_iff_lt_mul (by omega)]; omega
    obtain ⟨q1, q2, q3⟩ := hsplit
    generalize divQ x y d = q at *
    generalize divR x y d = r at *
    have hmul := fun W => limbMul_any q d r 0 W q3 hd (by omega) (by omega)
    have m1 : mulHi q d r 0 = x := by unfold mulHi; omega
    have m2 : mulLo q d r 0 = y := by unfold mulLo; omega
    rw [m1, m2] at hmul
    clear m1 m2 q1
    have HD := Lib.hid hdv
    have HS := Lib.hid hsub
    have HM := Lib.hid hmul
    clear hdv hsub hmul
    go_enter Try.func6, Try.ntmps6
    go_wp2_with (first
      | (go_at_call 25; refine (limbAdd_any _ _ _ _ hx hy hc).mono ?_; rintro e w' ⟨rfl, rfl⟩)
      | (go_at_call 27; refine (HS.out _).mono ?_; rintro e w' ⟨rfl, rfl⟩)
      | (go_at_call 31; refine (HD.out _).mono ?_; rintro e w' ⟨rfl, n, rfl⟩)
      | (go_at_call 29; refine (HM.out _).mono ?_; rintro e w' ⟨rfl, rfl⟩)
      | (go_at_call 24; refine (works1 _).mono ?_; rintro e w' ⟨rfl, rfl⟩))
    go_ret
    exact ⟨rfl, below_drewN ((Below.refl _ _).alloc (Nat.le_refl _) _) _⟩
  · have hok : divOk x d = false := by simp [divOk, hlt]
    have q0 : divQ x y d = 0 := by unfold divQ; rw [if_neg hlt]
    have r0 : divR x y d = 0 := by unfold divR; rw [if_neg hlt]
    rw [hok, q0, r0] at hdv
    clear hok q0 r0
    have HD := Lib.hid hdv
    have HS := Lib.hid hsub
    clear hdv hsub
    go_enter Try.func6, Try.ntmps6
    go_wp2_with (first
      | (go_at_call 25; refine (limbAdd_any _ _ _ _ hx hy hc).mono ?_; rintro e w' ⟨rfl, rfl⟩)
      | (go_at_call 27; refine (HS.out _).mono ?_; rintro e w' ⟨rfl, rfl⟩)
      | (go_at_call 31; refine (HD.out _).mono ?_; rintro e w' ⟨rfl, n, rfl⟩)
      | (go_at_call 24; refine (works1 _).mono ?_; rintro e w' ⟨rfl, rfl⟩))
    go_ret
    exact ⟨rfl, below_drewN ((Below.refl _ _).alloc (Nat.le_refl _) _) _⟩
end Go.Proofs.Ythkblaodnfanfaa
