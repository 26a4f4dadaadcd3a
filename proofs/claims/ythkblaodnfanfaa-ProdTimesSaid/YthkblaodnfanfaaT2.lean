/- Contracts of layer 3: how many bits a number has, and how many noughts stand at its low end. -/
import Derived.Test.YthkblaodnfanfaaT1
import Derived.Test.YthkblaodnfanfaaB2
namespace Go.Proofs.Ythkblaodnfanfaa
open Go.RowKit M

set_option maxHeartbeats 1000000 in
theorem twosLen_any (A : Option Addr) (n c : Nat) (xs : List Nat) (w : World) (hr : Rd w A n c xs) (hn : n ≤ 35184372088832) :
    Calls Try.prog 42 #[.slice A n c] w fun e w' => e = .returned (.int .i64 (blen (V xs))) ∧ Below w.heap.size w w' := by
  go_enter Try.func42, Try.ntmps42
  go_wp2_with fail
  refine (norm_any _ _ _ _ _ hr hn).mono ?_
  rintro e w1 ⟨A1, n1, c1, rfl, h1, b1⟩
  have hl : n1 ≤ n := by
    have := canon_length_le (V_lt hr.ok)
    rw [hr.len] at this
    rw [← h1.len]
    exact this
  by_cases h0 : n1 = 0
  · subst h0
    go_wp2
    go_ret
    have h2 := (canon_nil_iff (V xs)).1 h1.len
    exact ⟨ret_i64 (by rw [h2, blen_zero]; rfl), b1⟩
  · obtain ⟨m, rfl⟩ : ∃ m, n1 = m + 1 := ⟨n1 - 1, by omega⟩
    obtain ⟨e1, e2⟩ := blen_canon (V xs) m h1.len
    obtain ⟨ad, x, rfl, hc, hx, HX⟩ := h1.word m (by omega)
    rw [HX.out] at e1 e2
    have E1 := Lib.hid e1
    have hbl := blen_le (n := x) (k := 32) (by omega)
    clear e1 e2 h0
    go_wp2_with fail
    refine (limbLen_any x _ hx).mono ?_
    rintro e w2 ⟨rfl, rfl⟩
    go_wp2
    go_ret
    exact ⟨ret_i64 (by rw [E1.out]; omega), b1⟩

theorem tzw_le (x : Nat) (hx : x < 4294967296) : tzw x ≤ 32 := by
  unfold tzw
  split
  · omega
  · rename_i h
    have := tz_lt x 32 h (by omega)
    omega
set_option maxHeartbeats 1000000 in
theorem twosZeros_any (A : Option Addr) (n c : Nat) (xs : List Nat) (w : World) (hr : Rd w A n c xs) (hn : n ≤ 35184372088832) :
    Calls Try.prog 44 #[.slice A n c] w fun e w' => e = .returned (.int .i64 (tz (V xs))) ∧ w = w' := by
  go_enter Try.func44, Try.ntmps44
  go_wp2
  go_loop [7] (fun vi => ∃ k : Nat, vi = .int .i64 k ∧ k ≤ n ∧ Hid (∀ j, j < k → xs.getD j 0 = 0)) (fun vi => n - (intOf vi).toNat)
  case atStart => exact ⟨0, rfl, by omega, Lib.hid (fun j hj => absurd hj (by omega))⟩
  case round =>
    obtain ⟨k, rfl, hk, HZ⟩ := hrel
    by_cases hlt : k < n
    · obtain ⟨ad, x, rfl, hc, hx, HX⟩ := hr.word k hlt
      by_cases h0 : x = 0
      · subst h0
        go_wp2
        go_round
        case rel =>
          refine ⟨k + 1, by go_num, by omega, Lib.hid (fun j hj => ?_)⟩
          by_cases e : j = k
          · rw [e, HX.out]
          · exact HZ.out j (by omega)
        case measure => simp [intOf]; omega
      · have e1 := tz_first xs hr.ok k (by rw [hr.len]; exact hlt) HZ.out (by rw [HX.out]; exact h0)
        rw [HX.out, ← tzw_pos h0] at e1
        have E1 := Lib.hid e1
        have hz := tzw_le x hx
        have hne : ((x : Int) != 0) = true := by rw [bne_iff_ne]; omega
        clear e1
        go_wp2_with fail
        refine (limbZeros_any x _ hx).mono ?_
        rintro e w2 ⟨rfl, rfl⟩
        go_wp2
        go_ret
        exact ⟨ret_i64 (by rw [E1.out]; omega), rfl⟩
    · obtain rfl : k = n := by omega
      go_wp2
      go_ret
      exact ⟨ret_i64 (by rw [tz_none xs (fun j hj => HZ.out j (by rw [hr.len] at hj; exact hj))]; rfl), rfl⟩

set_option maxHeartbeats 1000000 in
theorem refLen3_any (A : Option Addr) (n c : Nat) (xs : List Nat) (w : World) (hr : Rd w A n c xs) (hn : n ≤ 35184372088832) :
    Calls Try.prog 43 #[.slice A n c] w fun e w' => e = .returned (.int .i64 (blen (V xs))) ∧ w = w' := by
  go_enter Try.func43, Try.ntmps43
  go_wp2
  go_loop [3] (fun vi => ∃ k : Nat, vi = .int .i64 k ∧ k ≤ 32 * n ∧ Hid (V xs < 2 ^ k)) (fun vi => (intOf vi).toNat)
  case atStart => exact ⟨32 * n, by go_num, by omega, Lib.hid (by have h := V_lt hr.ok; rw [hr.len, pow32] at h; exact h)⟩
  case round =>
    obtain ⟨k, rfl, hk, HV⟩ := hrel
    by_cases h0 : 0 < k
    · obtain ⟨m, rfl⟩ : ∃ m, k = m + 1 := ⟨k - 1, by omega⟩
      have hhas := fun W (h : Rd W A n c xs) => has_any A n c xs m W h hn (by omega)
      by_cases hb : bit (V xs) m = 1
      · have e : hasB (V xs) m = true := by simp [hasB, hb]
        rw [e] at hhas
        have HH := Lib.hid hhas
        clear hhas e
        go_wp2_with fail
        refine (HH.out _ hr).mono ?_
        rintro e w2 ⟨rfl, rfl⟩
        go_wp2
        go_ret
        exact ⟨ret_i64 (by rw [top_here _ _ HV.out hb]; omega), rfl⟩
      · have e : hasB (V xs) m = false := by simp [hasB, hb]
        rw [e] at hhas
        have HH := Lib.hid hhas
        clear hhas e
        go_wp2_with fail
        refine (HH.out _ hr).mono ?_
        rintro e w2 ⟨rfl, rfl⟩
        go_wp2
        go_round
        case rel => exact ⟨m, by go_num, by omega, Lib.hid (top_next _ _ HV.out hb)⟩
        case measure => simp [intOf]
    · obtain rfl : k = 0 := by omega
      have hv : V xs = 0 := by have := HV.out; simp at this; exact this
      have HV0 := Lib.hid hv
      clear hv
      go_wp2
      go_ret
      exact ⟨ret_i64 (by rw [HV0.out, blen_zero]; rfl), rfl⟩

set_option maxHeartbeats 1000000 in
theorem refZeros3_any (A : Option Addr) (n c : Nat) (xs : List Nat) (w : World) (hr : Rd w A n c xs) (hn : n ≤ 35184372088832) :
    Calls Try.prog 45 #[.slice A n c] w fun e w' => e = .returned (.int .i64 (tz (V xs))) ∧ w = w' := by
  go_enter Try.func45, Try.ntmps45
  go_wp2
  go_loop [3] (fun vi => ∃ k : Nat, vi = .int .i64 k ∧ k ≤ 32 * n ∧ Hid (V xs % 2 ^ k = 0)) (fun vi => 32 * n - (intOf vi).toNat)
  case atStart => exact ⟨0, rfl, by omega, Lib.hid (by simp; omega)⟩
  case round =>
    obtain ⟨k, rfl, hk, HV⟩ := hrel
    by_cases h0 : k < 32 * n
    · have hhas := fun W (h : Rd W A n c xs) => has_any A n c xs k W h hn (by omega)
      by_cases hb : bit (V xs) k = 1
      · have e : hasB (V xs) k = true := by simp [hasB, hb]
        rw [e] at hhas
        have HH := Lib.hid hhas
        clear hhas e
        go_wp2_with fail
        refine (HH.out _ hr).mono ?_
        rintro e w2 ⟨rfl, rfl⟩
        go_wp2
        go_ret
        exact ⟨ret_i64 (by rw [low_here _ _ HV.out hb]), rfl⟩
      · have e : hasB (V xs) k = false := by simp [hasB, hb]
        rw [e] at hhas
        have HH := Lib.hid hhas
        clear hhas e
        go_wp2_with fail
        refine (HH.out _ hr).mono ?_
        rintro e w2 ⟨rfl, rfl⟩
        go_wp2
        go_round
        case rel => exact ⟨k + 1, by go_num, by omega, Lib.hid (low_next _ _ HV.out hb)⟩
        case measure => simp [intOf]; omega
    · obtain rfl : k = 32 * n := by omega
      have hv : V xs = 0 := by
        have h := V_lt hr.ok
        rw [hr.len, pow32] at h
        have h2 := HV.out
        rw [Nat.mod_eq_of_lt h] at h2
        exact h2
      have HV0 := Lib.hid hv
      clear hv
      go_wp2
      go_ret
      exact ⟨ret_i64 (by rw [HV0.out, tz_zero]; rfl), rfl⟩
end Go.Proofs.Ythkblaodnfanfaa
