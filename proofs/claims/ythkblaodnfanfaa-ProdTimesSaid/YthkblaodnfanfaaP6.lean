/- Contracts of prod.Pow and of the document's Pow, for every exponent. -/
import Derived.Test.YthkblaodnfanfaaP5
namespace Go.Proofs.Ythkblaodnfanfaa
open Go.RowKit M
attribute [local go_sem] max_ints min_ints

theorem pow_sure {w w' : World} {v : Nat} {t : Int} {b : Bool} {xs : List Nat} {e : Ending} (hb : powOk v t = b) (hx : canon (powV v t) = xs) (h : Gives2 w xs (.bool b) e w') : Gives2 w (canon (powV v t)) (.bool (powOk v t)) e w' := by
  subst hb hx
  exact h
theorem powOk_neg (v : Nat) (t : Int) (h : t < 0) : powOk v t = false := by
  unfold powOk
  rw [decide_eq_false_iff_not]
  omega
theorem powOk_much (v t : Nat) (h1 : ¬ blen v ≤ 1) (h2 : 65536 / blen v < t) : powOk v (t : Int) = false := by
  unfold powOk
  rw [decide_eq_false_iff_not]
  intro h
  obtain ⟨_, h3⟩ := h
  rcases h3 with h3 | h3 <;> omega
theorem powOk_small (v t : Nat) (h1 : blen v ≤ 1) : powOk v (t : Int) = true := by
  unfold powOk
  rw [decide_eq_true_eq]
  exact ⟨by omega, .inl h1⟩
theorem powOk_fits (v t : Nat) (h2 : t ≤ 65536 / blen v) : powOk v (t : Int) = true := by
  unfold powOk
  rw [decide_eq_true_eq]
  exact ⟨by omega, .inr (by omega)⟩
theorem powV_no {v : Nat} {t : Int} (h : powOk v t = false) : canon (powV v t) = [] := by
  unfold powV
  rw [h, if_neg (by decide), canon_zero]
theorem powV_yes {v t : Nat} (h : powOk v (t : Int) = true) : canon (powV v (t : Int)) = canon (v ^ t) := by
  unfold powV
  rw [if_pos h]
  rfl
theorem blen_bd {w : World} {A : Option Addr} {n c : Nat} {xs : List Nat} (hr : Rd w A n c xs) (hn : n ≤ 1000000) : blen (V xs) ≤ 32000000 := by
  have := blen_le (n := V xs) (k := 32 * n) (by rw [← pow32]; have h := V_lt hr.ok; rw [hr.len] at h; exact h)
  omega

set_option maxHeartbeats 2000000 in
theorem pow_any (A : Option Addr) (n c : Nat) (xs : List Nat) (t : Int) (w : World) (hr : Rd w A n c xs) (hn : n ≤ 1000000) (_ht0 : -9223372036854775808 ≤ t) (ht : t ≤ 9223372036854775807) :
    Calls Try.prog 64 #[.slice A n c, .int .i64 t] w (Gives2 w (canon (powV (V xs) t)) (.bool (powOk (V xs) t))) := by
  have hll := blen_bd hr hn
  by_cases h0 : t < 0
  · have ho := powOk_neg (V xs) t h0
    refine Calls.mono ?_ (fun e w' h => pow_sure ho (powV_no ho) h)
    clear ho
    go_enter Try.func64, Try.ntmps64
    go_wp2_with fail
    refine (twosLen_any _ _ _ _ _ hr (by omega)).mono ?_
    rintro e w1 ⟨rfl, b1⟩
    go_wp2
    go_ret2
    exact ⟨none, 0, 0, rfl, Rd.nil _ _ _, b1⟩
  · obtain ⟨t, rfl⟩ := Int.eq_ofNat_of_zero_le (show 0 ≤ t by omega)
    by_cases h1 : blen (V xs) ≤ 1
    · have ho := powOk_small (V xs) t h1
      have hp := pow_small h1 t
      refine Calls.mono ?_ (fun e w' h => pow_sure ho (powV_yes ho) h)
      obtain ⟨l, hl⟩ : ∃ l, l = blen (V xs) := ⟨_, rfl⟩
      rw [← hl] at h1 hll
      have HL := Lib.hid hl
      clear ho hl
      by_cases ht1 : 0 < t
      · rw [Nat.min_eq_right (by omega), Nat.pow_one] at hp
        rw [hp]
        clear hp
        go_enter Try.func64, Try.ntmps64
        go_wp2_with fail
        refine (twosLen_any _ _ _ _ _ hr (by omega)).mono ?_
        rw [← HL.out]
        rintro e w1 ⟨rfl, b1⟩
        go_wp2_with fail
        refine (of_any 1 _ (by omega)).mono ?_
        rintro e w2 ⟨A2, n2, c2, rfl, r2, b2⟩
        go_wp2_with fail
        refine (norm_any _ _ _ _ _ ((hr.below b1).below b2) (by omega)).mono ?_
        rintro e w3 ⟨A3, n3, c3, rfl, r3, b3⟩
        go_wp2
        go_ret2
        exact ⟨_, _, _, rfl, r3, below_next (below_next b1 b2) b3⟩
      · obtain rfl : t = 0 := by omega
        rw [Nat.pow_zero]
        clear hp
        go_enter Try.func64, Try.ntmps64
        go_wp2_with fail
        refine (twosLen_any _ _ _ _ _ hr (by omega)).mono ?_
        rw [← HL.out]
        rintro e w1 ⟨rfl, b1⟩
        go_wp2_with fail
        refine (of_any 1 _ (by omega)).mono ?_
        rintro e w2 ⟨A2, n2, c2, rfl, r2, b2⟩
        go_wp2
        go_ret2
        exact ⟨_, _, _, rfl, r2, below_next b1 b2⟩
    · by_cases h2 : t ≤ 65536 / blen (V xs)
      · have ho := powOk_fits (V xs) t h2
        refine Calls.mono ?_ (fun e w' h => pow_sure ho (powV_yes ho) h)
        exact pow_yes A n c xs t w hr hn (by omega) (by omega) h2
      · have ho := powOk_much (V xs) t h1 (by omega)
        refine Calls.mono ?_ (fun e w' h => pow_sure ho (powV_no ho) h)
        obtain ⟨l, hl⟩ : ∃ l, l = blen (V xs) := ⟨_, rfl⟩
        obtain ⟨q, hq⟩ : ∃ q, q = 65536 / l := ⟨_, rfl⟩
        rw [← hl] at h1 h2 hll
        rw [← hq] at h2
        have hqi : (65536 : Int) / (l : Int) = (q : Int) := by rw [hq, Int.natCast_ediv]; rfl
        have HL := Lib.hid hl
        clear hl hq ho
        go_enter Try.func64, Try.ntmps64
        go_wp2_with fail
        refine (twosLen_any _ _ _ _ _ hr (by omega)).mono ?_
        rw [← HL.out]
        rintro e w1 ⟨rfl, b1⟩
        go_wp2
        go_ret2
        exact ⟨none, 0, 0, rfl, Rd.nil _ _ _, b1⟩

/-- The document's loop: factor by factor, t of them. -/
theorem rd_one (w : World) : Rd (w.alloc (.cells #[.int .u32 1] 22)) (some ⟨w.heap.size, 0, none⟩) 1 1 [1] := rd_lit1 w 1 (by omega)

set_option maxHeartbeats 2000000 in
theorem refPow_any (A : Option Addr) (n c : Nat) (xs : List Nat) (t : Int) (w : World) (hr : Rd w A n c xs) (hn : n ≤ 1000000) (_ht0 : -9223372036854775808 ≤ t) (ht : t ≤ 9223372036854775807) :
    Calls Try.prog 65 #[.slice A n c, .int .i64 t] w (Gives2 w (canon (powV (V xs) t)) (.bool (powOk (V xs) t))) := by
  have hll := blen_bd hr hn
  by_cases h0 : t < 0
  · have ho := powOk_neg (V xs) t h0
    refine Calls.mono ?_ (fun e w' h => pow_sure ho (powV_no ho) h)
    clear ho
    go_enter Try.func65, Try.ntmps65
    go_wp2_with fail
    refine (refLen3_any _ _ _ _ _ hr (by omega)).mono ?_
    rintro e w1 ⟨rfl, rfl⟩
    go_wp2
    go_ret2
    exact ⟨_, 0, 0, rfl, Rd.nil _ _ _, below_new _ _⟩
  · obtain ⟨t, rfl⟩ := Int.eq_ofNat_of_zero_le (show 0 ≤ t by omega)
    by_cases hno : ¬ blen (V xs) ≤ 1 ∧ 65536 / blen (V xs) < t
    · obtain ⟨h1, h2⟩ := hno
      have ho := powOk_much (V xs) t h1 h2
      refine Calls.mono ?_ (fun e w' h => pow_sure ho (powV_no ho) h)
      obtain ⟨l, hl⟩ : ∃ l, l = blen (V xs) := ⟨_, rfl⟩
      obtain ⟨q, hq⟩ : ∃ q, q = 65536 / l := ⟨_, rfl⟩
      rw [← hl] at h1 h2 hll
      rw [← hq] at h2
      have hqi : (65536 : Int) / (l : Int) = (q : Int) := by rw [hq, Int.natCast_ediv]; rfl
      have HL := Lib.hid hl
      clear hl hq ho
      go_enter Try.func65, Try.ntmps65
      go_wp2_with fail
      refine (refLen3_any _ _ _ _ _ hr (by omega)).mono ?_
      rw [← HL.out]
      rintro e w1 ⟨rfl, rfl⟩
      go_wp2
      go_ret2
      exact ⟨_, 0, 0, rfl, Rd.nil _ _ _, below_new _ _⟩
    · obtain ⟨s, hs, hsm, hmul, hsl⟩ : ∃ s : Nat, V xs ^ t = V xs ^ s ∧ (blen (V xs) ≤ 1 → s = min t 1) ∧ blen (V xs) * s ≤ 32 * 2048 ∧ (1 < blen (V xs) → s = t) := by
        by_cases h1 : blen (V xs) ≤ 1
        · refine ⟨min t 1, pow_small h1 t, fun _ => rfl, ?_, fun h => absurd h (by omega)⟩
          have := Nat.mul_le_mul h1 (Nat.min_le_right t 1)
          omega
        · refine ⟨t, rfl, fun h => absurd h h1, ?_, fun _ => rfl⟩
          have h2 : t ≤ 65536 / blen (V xs) := by omega
          have := Nat.mul_le_mul_left (blen (V xs)) h2
          have h3 := Nat.mul_div_le 65536 (blen (V xs))
          omega
      have ho : powOk (V xs) (t : Int) = true := by
        by_cases h1 : blen (V xs) ≤ 1
        · exact powOk_small _ _ h1
        · exact powOk_fits _ _ (by omega)
      refine Calls.mono ?_ (fun e w' h => pow_sure ho (powV_yes ho) h)
      rw [hs]
      have hpw := fun q => pow_words (V xs) s q 2048 hmul
      obtain ⟨l, hl⟩ : ∃ l, l = blen (V xs) := ⟨_, rfl⟩
      obtain ⟨q, hq⟩ : ∃ q, q = 65536 / l := ⟨_, rfl⟩
      rw [← hl] at hno hsm hsl hll
      rw [← hq] at hno
      have hqi : (65536 : Int) / (l : Int) = (q : Int) := by rw [hq, Int.natCast_ediv]; rfl
      have HL := Lib.hid hl
      have HP := Lib.hid hpw
      have hmin : mnI (t : Int) 1 = ((min t 1 : Nat) : Int) := mn_of t 1
      have hst : s ≤ t := by
        by_cases h1 : l ≤ 1
        · rw [hsm h1]; exact Nat.min_le_left _ _
        · rw [hsl (by omega)]; exact Nat.le_refl _
      have HM := Lib.hid hmin
      have HS1 := Lib.hid hsm
      have HS2 := Lib.hid hsl
      clear ho hs hl hq hmul hpw hmin hsm hsl
      by_cases h1 : l ≤ 1
      · have hrule : mnI (t : Int) 1 = (s : Int) := by rw [HM.out, HS1.out h1]
        clear hno
        go_enter Try.func65, Try.ntmps65
        go_wp2_with fail
        refine (refLen3_any _ _ _ _ _ hr (by omega)).mono ?_
        rw [← HL.out]
        rintro e w1 ⟨rfl, rfl⟩
        go_wp2
        go_loopw [7, 8] (fun vs vi wr => ∃ (j : Nat) (A1 : Option Addr) (n1 c1 : Nat), vi = .int .i64 j ∧ j ≤ s ∧ vs = .slice A1 n1 c1 ∧ Rd wr A1 n1 c1 (canon (V xs ^ j)) ∧ Below w.heap.size w wr) (fun _ vi _ => s - (intOf vi).toNat)
        case atStart => exact ⟨0, _, 1, 1, rfl, by omega, rfl, by rw [Nat.pow_zero, canon_word (by omega) (by omega)]; exact rd_one w, below_new _ _⟩
        case round =>
          obtain ⟨j, A1, n1, c1, rfl, hj, rfl, hrd, hb⟩ := hrel
          by_cases hlt : j < s
          · have l1 : n1 ≤ 2049 := by rw [← hrd.len]; exact HP.out _ (by omega)
            go_wp2_with fail
            refine (refNorm_any _ _ _ _ _ (hr.below hb) (by omega)).mono ?_
            rintro e w2 ⟨A2, n2, c2, rfl, r2, b2⟩
            have l2 : n2 ≤ n := by
              rw [← r2.len]
              have := canon_length_le (V_lt hr.ok)
              rw [hr.len] at this
              exact this
            go_wp2_with fail
            refine (refMul2_any _ _ _ _ _ _ _ _ _ (hrd.below b2) r2 (by omega) (by omega)).mono ?_
            rw [V_canon, V_canon, ← Nat.pow_succ]
            rintro e w3 ⟨A3, n3, c3, rfl, r3, b3⟩
            go_wp2
            go_roundw
            case rel => exact ⟨j + 1, A3, n3, c3, by go_num, by omega, rfl, r3, below_next (below_next hb b2) b3⟩
            case measure => simp [intOf]; omega
          · obtain rfl : j = s := by omega
            go_wp2
            go_ret2
            exact ⟨_, _, _, rfl, hrd, hb⟩
      · have hst2 := HS2.out (by omega)
        subst hst2
        have hno2 : ¬ q < s := by omega
        clear hno
        go_enter Try.func65, Try.ntmps65
        go_wp2_with fail
        refine (refLen3_any _ _ _ _ _ hr (by omega)).mono ?_
        rw [← HL.out]
        rintro e w1 ⟨rfl, rfl⟩
        go_wp2
        go_loopw [7, 8] (fun vs vi wr => ∃ (j : Nat) (A1 : Option Addr) (n1 c1 : Nat), vi = .int .i64 j ∧ j ≤ s ∧ vs = .slice A1 n1 c1 ∧ Rd wr A1 n1 c1 (canon (V xs ^ j)) ∧ Below w.heap.size w wr) (fun _ vi _ => s - (intOf vi).toNat)
        case atStart => exact ⟨0, _, 1, 1, rfl, by omega, rfl, by rw [Nat.pow_zero, canon_word (by omega) (by omega)]; exact rd_one w, below_new _ _⟩
        case round =>
          obtain ⟨j, A1, n1, c1, rfl, hj, rfl, hrd, hb⟩ := hrel
          by_cases hlt : j < s
          · have l1 : n1 ≤ 2049 := by rw [← hrd.len]; exact HP.out _ (by omega)
            go_wp2_with fail
            refine (refNorm_any _ _ _ _ _ (hr.below hb) (by omega)).mono ?_
            rintro e w2 ⟨A2, n2, c2, rfl, r2, b2⟩
            have l2 : n2 ≤ n := by
              rw [← r2.len]
              have := canon_length_le (V_lt hr.ok)
              rw [hr.len] at this
              exact this
            go_wp2_with fail
            refine (refMul2_any _ _ _ _ _ _ _ _ _ (hrd.below b2) r2 (by omega) (by omega)).mono ?_
            rw [V_canon, V_canon, ← Nat.pow_succ]
            rintro e w3 ⟨A3, n3, c3, rfl, r3, b3⟩
            go_wp2
            go_roundw
            case rel => exact ⟨j + 1, A3, n3, c3, by go_num, by omega, rfl, r3, below_next (below_next hb b2) b3⟩
            case measure => simp [intOf]; omega
          · obtain rfl : j = s := by omega
            go_wp2
            go_ret2
            exact ⟨_, _, _, rfl, hrd, hb⟩
end Go.Proofs.Ythkblaodnfanfaa
