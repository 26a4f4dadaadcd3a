/- Contracts of prod.Pow and of the document's Pow. -/
import Derived.Test.YthkblaodnfanfaaP4
namespace Go.Proofs.Ythkblaodnfanfaa
open Go.RowKit M
attribute [local go_sem] max_ints min_ints

/-- May this power be? -/
def powOk (v : Nat) (e : Int) : Bool := decide (0 ≤ e ∧ (blen v ≤ 1 ∨ e ≤ ((65536 / blen v : Nat) : Int)))
def powV (v : Nat) (e : Int) : Nat := if powOk v e = true then v ^ e.toNat else 0
theorem pow_words (v t q K : Nat) (h : blen v * t ≤ 32 * K) (hq : q ≤ t) : (canon (v ^ q)).length ≤ K + 1 := by
  apply canon_length_le
  have h1 : v ≤ 2 ^ blen v := Nat.le_of_lt (lt_pow_blen v)
  have h2 : v ^ q ≤ (2 ^ blen v) ^ q := Nat.pow_le_pow_left h1 q
  rw [← Nat.pow_mul] at h2
  have h3 : blen v * q ≤ 32 * K := Nat.le_trans (Nat.mul_le_mul_left _ hq) h
  have h4 : 2 ^ (blen v * q) ≤ 2 ^ (32 * K) := Nat.pow_le_pow_right (by omega) h3
  rw [← pow32] at h4
  have h5 : 4294967296 ^ (K + 1) = 4294967296 ^ K * 4294967296 := Nat.pow_succ ..
  have h6 := pow_pos K
  omega
theorem pow_small {v : Nat} (h : blen v ≤ 1) (t : Nat) : v ^ t = v ^ (min t 1) := by
  have h1 := lt_pow_blen v
  have h2 : 2 ^ blen v ≤ 2 ^ 1 := Nat.pow_le_pow_right (by omega) h
  have h3 : v = 0 ∨ v = 1 := by omega
  by_cases ht : t = 0
  · rw [ht]; rfl
  · rw [Nat.min_eq_right (by omega)]
    rcases h3 with rfl | rfl
    · rw [Nat.zero_pow (by omega), Nat.pow_one]
    · simp
theorem halve (t m : Nat) : t / 2 ^ m = 2 * (t / 2 ^ (m + 1)) + t / 2 ^ m % 2 := by
  rw [Nat.pow_succ, ← Nat.div_div_eq_div_mul]
  omega
theorem mask_i64 (x : Nat) (h : x < 9223372036854775808) : bits .and .i64 (x : Int) 1 = ((x % 2 : Nat) : Int) := by
  have := bits_mask .i64 63 (by decide) (fun n a b => by rw [IntKind.wrap_i64]; omega) 1 (by decide) (x : Int) (by omega) (by omega)
  rw [show (2 : Int) ^ 1 - 1 = 1 by decide, show (2 : Int) ^ 1 = 2 by decide] at this
  omega

set_option maxHeartbeats 4000000 in
/-- The power that is told, bit by bit. -/
theorem pow_yes (A : Option Addr) (n c : Nat) (xs : List Nat) (t : Nat) (w : World) (hr : Rd w A n c xs) (hn : n ≤ 1000000) (ht : t ≤ 9223372036854775807) (h1 : 1 < blen (V xs)) (h2 : t ≤ 65536 / blen (V xs)) :
    Calls Try.prog 64 #[.slice A n c, .int .i64 t] w (Gives2 w (canon (V xs ^ t)) (.bool true)) := by
  have hmul : blen (V xs) * t ≤ 32 * 2048 := by
    have := Nat.mul_le_mul_left (blen (V xs)) h2
    have h3 := Nat.mul_div_le 65536 (blen (V xs))
    omega
  have hpw := fun q => pow_words (V xs) t q 2048 hmul
  obtain ⟨l, hl⟩ : ∃ l, l = blen (V xs) := ⟨_, rfl⟩
  obtain ⟨q, hq⟩ : ∃ q, q = 65536 / l := ⟨_, rfl⟩
  rw [← hl] at h1 h2
  rw [← hq] at h2
  have hqi : (65536 : Int) / (l : Int) = (q : Int) := by rw [hq, Int.natCast_ediv]; rfl
  have hll : l ≤ 32000000 := by
    rw [hl]
    have := blen_le (n := V xs) (k := 32 * n) (by rw [← pow32]; have h := V_lt hr.ok; rw [hr.len] at h; exact h)
    omega
  have HP := Lib.hid hpw
  have HL := Lib.hid hl
  have hbt := blen_le (n := t) (k := 64) (by omega)
  have hbt2 := lt_pow_blen t
  obtain ⟨b, hb⟩ : ∃ b, b = blen t := ⟨_, rfl⟩
  rw [← hb] at hbt hbt2
  have HB := Lib.hid hb
  have HT := Lib.hid (Nat.div_eq_of_lt hbt2)
  clear hpw hl hq hb hbt2 hmul
  go_enter Try.func64, Try.ntmps64
  go_wp2_with fail
  refine (twosLen_any _ _ _ _ _ hr (by omega)).mono ?_
  rw [← HL.out]
  rintro e w1 ⟨rfl, b1⟩
  go_wp2_with fail
  refine (of_any 1 _ (by omega)).mono ?_
  rintro e w2 ⟨A2, n2, c2, rfl, r2, b2⟩
  go_wp2_with fail
  refine (of_any t _ (by omega)).mono ?_
  rintro e w3 ⟨A3, n3, c3, rfl, r3, b3⟩
  have l3 : n3 ≤ 2 := len_canon r3 (by omega)
  go_wp2_with fail
  refine (twosLen_any _ _ _ _ _ r3 (by omega)).mono ?_
  rw [V_canon, ← HB.out]
  rintro e w4 ⟨rfl, b4⟩
  have g4 := below_next (below_next (below_next b1 b2) b3) b4
  have r2' := (r2.below b3).below b4
  go_wp2
  go_loopw [7, 8] (fun vs vi wr => ∃ (i : Int) (A1 : Option Addr) (n1 c1 : Nat), vi = .int .i64 i ∧ -1 ≤ i ∧ i < b ∧ vs = .slice A1 n1 c1 ∧ Rd wr A1 n1 c1 (canon (V xs ^ (t / 2 ^ (i + 1).toNat))) ∧ Below w.heap.size w wr) (fun _ vi _ => (intOf vi + 1).toNat)
  case atStart =>
    refine ⟨_, A2, n2, c2, rfl, by omega, by omega, rfl, ?_, g4⟩
    rw [show ((b : Int) - 1 + 1).toNat = b by omega, HT.out, Nat.pow_zero]
    exact r2'
  case round =>
    clear g4 r2' r2 r3
    obtain ⟨i, A1, n1, c1, rfl, hi1, hi2, rfl, hrd, hbw⟩ := hrel
    by_cases h0 : 0 ≤ i
    · obtain ⟨m, rfl⟩ := Int.eq_ofNat_of_zero_le h0
      have e1 : ((m : Int) + 1).toNat = m + 1 := by omega
      rw [e1] at hrd
      have hh := halve t m
      have hle : 2 * (t / 2 ^ (m + 1)) ≤ t := by
        have := Nat.div_le_self t (2 ^ m)
        omega
      have l1 : n1 ≤ 2049 := by rw [← hrd.len]; exact HP.out _ (by omega)
      have HE : Hid (((m : Int) - 1 + 1).toNat = m) := Lib.hid (by omega)
      have hsq : V xs ^ (t / 2 ^ (m + 1)) * V xs ^ (t / 2 ^ (m + 1)) = V xs ^ (2 * (t / 2 ^ (m + 1))) := by rw [← Nat.pow_add]; congr 1; omega
      have HS := Lib.hid hsq
      have hlen2 := HP.out _ hle
      have HL2 := Lib.hid hlen2
      have hbit := mask_i64 (t / 2 ^ m) (Nat.lt_of_le_of_lt (Nat.div_le_self _ _) (by omega))
      rw [← div_cast] at hbit
      clear e1 hsq hlen2 hle
      by_cases hb1 : t / 2 ^ m % 2 = 1
      · rw [hb1] at hbit hh
        have HH := Lib.hid hh
        have hbit' : bits .and .i64 ((t : Int) / 2 ^ m) 1 = 1 := hbit
        clear hh hb1 hbit
        go_wp2_with fail
        refine (square_any _ _ _ _ _ hrd (by omega)).mono ?_
        rw [V_canon, HS.out]
        rintro e w5 ⟨A5, n5, c5, rfl, r5, b5⟩
        have l5 : n5 ≤ 2049 := by rw [← r5.len]; exact HL2.out
        have g5 := below_next hbw b5
        go_wp2_with fail
        refine (mul_any _ _ _ _ _ _ _ _ _ r5 (hr.below g5) (by omega) hn).mono ?_
        rw [V_canon, ← Nat.pow_succ]
        rintro e w6 ⟨A6, n6, c6, rfl, r6, b6⟩
        go_wp2
        go_roundw
        case rel =>
          refine ⟨_, A6, n6, c6, rfl, by omega, by omega, rfl, ?_, below_next g5 b6⟩
          rw [HE.out, HH.out]
          exact r6
        case measure => simp [intOf]
      · have hb0 : t / 2 ^ m % 2 = 0 := by omega
        rw [hb0] at hbit hh
        have HH := Lib.hid hh
        have hbit' : bits .and .i64 ((t : Int) / 2 ^ m) 1 = 0 := hbit
        clear hh hb1 hb0 hbit
        go_wp2_with fail
        refine (square_any _ _ _ _ _ hrd (by omega)).mono ?_
        rw [V_canon, HS.out]
        rintro e w5 ⟨A5, n5, c5, rfl, r5, b5⟩
        have g5 := below_next hbw b5
        go_wp2
        go_roundw
        case rel =>
          refine ⟨_, A5, n5, c5, rfl, by omega, by omega, rfl, ?_, g5⟩
          rw [HE.out, HH.out]
          exact r5
        case measure => simp [intOf]
    · have hi3 : i = -1 := by omega
      rw [hi3, show ((-1 : Int) + 1).toNat = 0 by decide, Nat.pow_zero, Nat.div_one] at hrd
      clear hi3
      go_wp2
      go_ret2
      exact ⟨_, _, _, rfl, hrd, hbw⟩
end Go.Proofs.Ythkblaodnfanfaa
