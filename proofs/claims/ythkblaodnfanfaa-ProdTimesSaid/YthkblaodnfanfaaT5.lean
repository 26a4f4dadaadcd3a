/- Contracts of the document's answer for layer 3: Bits, Up, Down, Low. -/
import Derived.Test.YthkblaodnfanfaaT4
namespace Go.Proofs.Ythkblaodnfanfaa
open Go.RowKit M
attribute [local go_sem] max_ints min_ints

/-- Is the bit at a place 1, below the number's begin, too? -/
def hasI (v : Nat) (i : Int) : Bool := decide (0 ≤ i) && hasB v i.toNat
theorem hasInt_any (A : Option Addr) (n c : Nat) (xs : List Nat) (i : Int) (w : World) (hr : Rd w A n c xs) (hn : n ≤ 35184372088832) (hi : i ≤ 9223372036854775807) :
    Calls Try.prog 47 #[.slice A n c, .int .i64 i] w fun e w' => e = .returned (.bool (hasI (V xs) i)) ∧ w = w' := by
  by_cases h0 : 0 ≤ i
  · obtain ⟨j, rfl⟩ := Int.eq_ofNat_of_zero_le h0
    have e : hasI (V xs) (j : Int) = hasB (V xs) j := by simp [hasI]
    rw [e]
    exact has_any A n c xs j w hr hn (by omega)
  · have e : hasI (V xs) i = false := by simp [hasI, h0]
    rw [e]
    exact has_neg A n c i w (by omega)

/-- The number of these bits, the lowest first. -/
def bsum (f : Nat → Bool) : Nat → Nat
  | 0 => 0
  | m + 1 => bsum f m + if f m = true then 2 ^ m else 0
theorem bsum_lt (f : Nat → Bool) (m : Nat) : bsum f m < 2 ^ m := by
  induction m with
  | zero => simp [bsum]
  | succ m ih =>
    rw [bsum, Nat.pow_succ]
    split <;> omega
theorem getD_le_V (xs : List Nat) (j : Nat) : 4294967296 ^ j * xs.getD j 0 ≤ V xs := by
  by_cases h : j < xs.length
  · rw [V_cut xs j (by omega), V_drop xs j h, Nat.mul_add]
    omega
  · rw [getD_ge xs j (by omega)]; omega
theorem bits_room (zs : List Nat) (i : Nat) (h : V zs < 2 ^ i) : zs.getD (i / 32) 0 < 2 ^ (i % 32) := by
  have h1 := getD_le_V zs (i / 32)
  rw [pow_split i] at h
  exact Nat.lt_of_mul_lt_mul_left (Nat.lt_of_le_of_lt h1 h)
theorem bits_set (zs : List Nat) (f : Nat → Bool) (i y : Nat) (h : V zs = bsum f i) (hf : f i = true) (hi : i / 32 < zs.length) (hy : zs.getD (i / 32) 0 = y) :
    V (zs.set (i / 32) (y + 2 ^ (i % 32))) = bsum f (i + 1) ∧ y + 2 ^ (i % 32) < 4294967296 := by
  have h1 := bits_room zs i (by rw [h]; exact bsum_lt f i)
  rw [hy] at h1
  have h2 := V_set zs (i / 32) (y + 2 ^ (i % 32)) hi
  rw [hy, Nat.mul_add, ← pow_split] at h2
  have h3 := (pow_low i).2
  refine ⟨?_, by omega⟩
  rw [bsum, hf, if_pos rfl]
  omega
theorem bits_not (zs : List Nat) (f : Nat → Bool) (i : Nat) (h : V zs = bsum f i) (hf : f i = false) : V zs = bsum f (i + 1) := by
  rw [bsum, hf, h]
  simp

theorem bits_rule (y k v : Nat) (hv : v = y + 2 ^ (k % 32)) (h : v < 4294967296) : ((y : Int) + 2 ^ (k % 32)) % 4294967296 = (v : Int) := by
  have e : ((2 : Int) ^ (k % 32)) = ((2 ^ (k % 32) : Nat) : Int) := by rw [Int.natCast_pow]; rfl
  rw [e]
  omega

set_option maxHeartbeats 2000000 in
theorem refBits_any (A : Option Addr) (n c : Nat) (xs : List Nat) (fr : Int) (m : Nat) (w : World) (hr : Rd w A n c xs) (hn : n ≤ 35184372088832) (h1 : -1000000 ≤ fr) (h2 : fr + m ≤ 9223372036854775807) (hm : m ≤ 35184372088832) :
    Calls Try.prog 74 #[.slice A n c, .int .i64 fr, .int .i64 m] w (Gives w (canon (bsum (fun i => hasI (V xs) (fr + i)) m))) := by
  go_enter Try.func74, Try.ntmps74
  go_wp2_with (first
    | (at_make; refine make_words _ rfl _ _ rfl _ (m / 32 + 1) rfl rfl (by omega) (by omega) ?_; intro g w1 hown0 hb0))
  have HZ := V_zeros (m / 32 + 1)
  generalize List.replicate (m / 32 + 1) 0 = O0 at hown0 HZ
  have HZ0 := Lib.hid HZ
  clear HZ
  go_loopw [8] (fun vi wr => ∃ (k : Nat) (O : List Nat), vi = .int .i64 k ∧ k ≤ m ∧ Own wr w.heap.size g (m / 32 + 1) (m / 32 + 1) O ∧ Below w.heap.size w wr ∧ Hid (V O = bsum (fun i => hasI (V xs) (fr + i)) k)) (fun vi _ => m - (intOf vi).toNat)
  case atStart => exact ⟨0, _, rfl, by omega, hown0, hb0, Lib.hid (by rw [HZ0.out]; rfl)⟩
  case round =>
    clear hown0 hb0 HZ0
    obtain ⟨k, O, rfl, hk, hown, hb, HV⟩ := hrel
    by_cases hlt : k < m
    · cases hb1 : hasI (V xs) (fr + k) with
      | true =>
        obtain ⟨y, hcy, hy, HY⟩ := hown.word (k / 32) (by omega)
        have hf := hown.frozen (k / 32)
        have hc := hasInt_any A n c xs (fr + k) wr (hr.below hb) hn (by omega)
        rw [hb1] at hc
        obtain ⟨s1, s2⟩ := bits_set O _ k y HV.out hb1 (by rw [hown.len]; omega) HY.out
        obtain ⟨v, hv⟩ : ∃ v, v = y + 2 ^ (k % 32) := ⟨_, rfl⟩
        rw [← hv] at s1 s2
        have rule := bits_rule y k v hv s2
        have S1 := Lib.hid s1
        have HC := Lib.hid hc
        clear hb1 s1 hc hv
        go_wp2_with fail
        refine HC.out.mono ?_
        rintro e w2 ⟨rfl, rfl⟩
        go_wp2
        go_region
        go_wp2
        go_roundw
        case rel => exact ⟨k + 1, _, by go_num, by omega, (hown.set (k / 32) v s2).drew, (hb.setCell hown.base_le _).drew, S1⟩
        case measure => simp [intOf]; omega
      | false =>
        have hc := hasInt_any A n c xs (fr + k) wr (hr.below hb) hn (by omega)
        rw [hb1] at hc
        have S1 := Lib.hid (bits_not O _ k HV.out hb1)
        have HC := Lib.hid hc
        clear hb1 hc
        go_wp2_with fail
        refine HC.out.mono ?_
        rintro e w2 ⟨rfl, rfl⟩
        go_wp2
        go_roundw
        case rel => exact ⟨k + 1, O, by go_num, by omega, hown, hb, S1⟩
        case measure => simp [intOf]; omega
    · obtain rfl : k = m := by omega
      go_wp2_with fail
      refine (refNorm_any _ _ _ _ _ hown.rd (by omega)).mono ?_
      rintro e w2 ⟨A2, n2, c2, rfl, hr2, b2⟩
      go_wp2
      go_ret
      rw [HV.out] at hr2
      exact Gives.mk hr2 (below_next hb b2)

theorem bsum_congr (f g : Nat → Bool) (m : Nat) (h : ∀ i, i < m → f i = g i) : bsum f m = bsum g m := by
  induction m with
  | zero => rfl
  | succ m ih => rw [bsum, bsum, ih (fun i hi => h i (by omega)), h m (by omega)]
theorem bsum_bits (v m : Nat) : bsum (fun i => hasB v i) m = v % 2 ^ m := by
  induction m with
  | zero => simp [bsum, Nat.mod_one]
  | succ m ih =>
    rw [bsum, ih, Nat.pow_succ, Nat.mod_mul]
    have hb := bit_lt v m
    unfold hasB bit at *
    by_cases h : v / 2 ^ m % 2 = 1
    · simp [h]
    · have h0 : v / 2 ^ m % 2 = 0 := by omega
      simp [h0]
theorem hasB_shift (v a i : Nat) : hasB v (a + i) = hasB (v / 2 ^ a) i := by
  unfold hasB bit
  rw [Nat.div_div_eq_div_mul, ← Nat.pow_add]
theorem bsum_down (v a m : Nat) : bsum (fun i => hasI v ((a : Int) + i)) m = v / 2 ^ a % 2 ^ m := by
  rw [← bsum_bits]
  apply bsum_congr
  intro i _
  rw [← hasB_shift]
  have e : ((a : Int) + (i : Int)).toNat = a + i := by omega
  have e2 : (0 : Int) ≤ (a : Int) + (i : Int) := by omega
  simp [hasI, e, e2]
theorem bsum_up (v a m : Nat) : bsum (fun i => hasI v (-(a : Int) + i)) (a + m) = v % 2 ^ m * 2 ^ a := by
  induction m with
  | zero =>
    rw [Nat.pow_zero, Nat.mod_one, Nat.zero_mul]
    have : bsum (fun i => hasI v (-(a : Int) + i)) a = bsum (fun _ => false) a := bsum_congr _ _ _ (fun i hi => by
      have e : ¬ (0 : Int) ≤ -(a : Int) + (i : Int) := by omega
      simp only [hasI, decide_eq_false e, Bool.false_and])
    rw [Nat.add_zero, this]
    have hz : ∀ k, bsum (fun _ => false) k = 0 := by
      intro k
      induction k with
      | zero => rfl
      | succ k ih => rw [bsum, ih]; rfl
    exact hz a
  | succ m ih =>
    rw [← Nat.add_assoc, bsum, ih, Nat.pow_succ, Nat.mod_mul, Nat.add_mul]
    have e : (-(a : Int) + ((a + m : Nat) : Int)).toNat = m := by omega
    have e2 : (0 : Int) ≤ -(a : Int) + ((a + m : Nat) : Int) := by omega
    have hb := bit_lt v m
    have hh : hasI v (-(a : Int) + ((a + m : Nat) : Int)) = hasB v m := by simp only [hasI, decide_eq_true e2, Bool.true_and, e]
    rw [hh]
    unfold hasB bit at *
    by_cases h : v / 2 ^ m % 2 = 1
    · rw [h, decide_eq_true (show (1 : Nat) = 1 from rfl), if_pos rfl, Nat.mul_one, Nat.pow_add, Nat.mul_comm (2 ^ a)]
    · have h0 : v / 2 ^ m % 2 = 0 := by omega
      simp [h0]

set_option maxHeartbeats 1000000 in
theorem refUp_any (A : Option Addr) (n c : Nat) (xs : List Nat) (i : Int) (w : World) (hr : Rd w A n c xs) (hn : n ≤ 1000000) :
    Calls Try.prog 58 #[.slice A n c, .int .i64 i] w (Gives w (canon (V xs * 2 ^ (min i.toNat 4096)))) := by
  obtain ⟨r, hr0⟩ : ∃ r, r = i.toNat := ⟨_, rfl⟩
  obtain ⟨t, ht⟩ : ∃ t, t = min r 4096 := ⟨_, rfl⟩
  have h1 : mxI i 0 = (r : Int) := by rw [hr0]; exact mx_zero i
  have h2 : mnI (r : Int) 4096 = (t : Int) := by rw [ht]; exact mn_of _ 4096
  rw [← hr0, ← ht]
  have htl : t ≤ 4096 := by omega
  clear ht hr0
  have hlt := V_lt hr.ok
  rw [hr.len, pow32] at hlt
  have hval : bsum (fun i => hasI (V xs) (-(t : Int) + i)) (t + 32 * n) = V xs * 2 ^ t := by rw [bsum_up, Nat.mod_eq_of_lt hlt]
  obtain ⟨q, hq⟩ : ∃ q, q = t + 32 * n := ⟨_, rfl⟩
  have h3 : (t : Int) + 32 * (n : Int) = (q : Int) := by omega
  have hq2 : q ≤ 33000000 := by omega
  rw [← hq] at hval
  have HV := Lib.hid hval
  clear hval hlt hq
  go_enter Try.func58, Try.ntmps58
  go_wp2_with fail
  refine (refBits_any A n c xs (-(t : Int)) q _ hr (by omega) (by omega) (by omega) (by omega)).mono ?_
  rintro e w2 ⟨A2, n2, c2, rfl, hr2, b2⟩
  go_wp2
  go_ret
  rw [HV.out] at hr2
  exact Gives.mk hr2 b2

theorem clip_down (v n r : Nat) (h : v < 2 ^ (32 * n)) : v / 2 ^ (min r (32 * n)) % 2 ^ (32 * n - min r (32 * n)) = v / 2 ^ r := by
  by_cases hle : r ≤ 32 * n
  · rw [Nat.min_eq_left hle]
    apply Nat.mod_eq_of_lt
    rw [Nat.div_lt_iff_lt_mul (Nat.pow_pos (by omega)), ← Nat.pow_add, show 32 * n - r + r = 32 * n by omega]
    exact h
  · rw [Nat.min_eq_right (by omega), Nat.sub_self, Nat.pow_zero, Nat.mod_one]
    have : 2 ^ (32 * n) ≤ 2 ^ r := Nat.pow_le_pow_right (by omega) (by omega)
    exact (Nat.div_eq_of_lt (by omega)).symm
theorem clip_low (v n r : Nat) (h : v < 2 ^ (32 * n)) : v % 2 ^ (min r (32 * n)) = v % 2 ^ r := by
  by_cases hle : r ≤ 32 * n
  · rw [Nat.min_eq_left hle]
  · rw [Nat.min_eq_right (by omega), Nat.mod_eq_of_lt h]
    have : 2 ^ (32 * n) ≤ 2 ^ r := Nat.pow_le_pow_right (by omega) (by omega)
    exact (Nat.mod_eq_of_lt (by omega)).symm

set_option maxHeartbeats 1000000 in
theorem refDown_any (A : Option Addr) (n c : Nat) (xs : List Nat) (i : Int) (w : World) (hr : Rd w A n c xs) (hn : n ≤ 1000000) :
    Calls Try.prog 60 #[.slice A n c, .int .i64 i] w (Gives w (canon (V xs / 2 ^ i.toNat))) := by
  obtain ⟨r, hr0⟩ : ∃ r, r = i.toNat := ⟨_, rfl⟩
  obtain ⟨q, hq⟩ : ∃ q, q = 32 * n := ⟨_, rfl⟩
  obtain ⟨t, ht⟩ : ∃ t, t = min r q := ⟨_, rfl⟩
  have h1 : mxI i 0 = (r : Int) := by rw [hr0]; exact mx_zero i
  have h2 : mnI (r : Int) (q : Int) = (t : Int) := by rw [ht]; exact mn_of _ _
  have h3 : 32 * (n : Int) = (q : Int) := by omega
  rw [← hr0]
  have htl : t ≤ q := by omega
  have hlt := V_lt hr.ok
  rw [hr.len, pow32, ← hq] at hlt
  obtain ⟨d, hd⟩ : ∃ d, d = q - t := ⟨_, rfl⟩
  have hval : bsum (fun i => hasI (V xs) ((t : Int) + i)) d = V xs / 2 ^ r := by
    rw [bsum_down, hd, ht, hq]
    exact clip_down _ _ _ (by rw [← hq]; exact hlt)
  have HV := Lib.hid hval
  have hq2 : q ≤ 32000000 := by omega
  have h4 : (q : Int) - (t : Int) = (d : Int) := by omega
  have hd2 : d ≤ 32000000 := by omega
  clear hval hlt ht hr0 hq hd
  go_enter Try.func60, Try.ntmps60
  go_wp2_with fail
  refine (refBits_any A n c xs (t : Int) d _ hr (by omega) (by omega) (by omega) (by omega)).mono ?_
  rintro e w2 ⟨A2, n2, c2, rfl, hr2, b2⟩
  go_wp2
  go_ret
  rw [HV.out] at hr2
  exact Gives.mk hr2 b2

set_option maxHeartbeats 1000000 in
theorem refLow_any (A : Option Addr) (n c : Nat) (xs : List Nat) (i : Int) (w : World) (hr : Rd w A n c xs) (hn : n ≤ 1000000) :
    Calls Try.prog 62 #[.slice A n c, .int .i64 i] w (Gives w (canon (V xs % 2 ^ i.toNat))) := by
  obtain ⟨r, hr0⟩ : ∃ r, r = i.toNat := ⟨_, rfl⟩
  obtain ⟨q, hq⟩ : ∃ q, q = 32 * n := ⟨_, rfl⟩
  obtain ⟨t, ht⟩ : ∃ t, t = min r q := ⟨_, rfl⟩
  have h1 : mxI i 0 = (r : Int) := by rw [hr0]; exact mx_zero i
  have h2 : mnI (r : Int) (q : Int) = (t : Int) := by rw [ht]; exact mn_of _ _
  have h3 : 32 * (n : Int) = (q : Int) := by omega
  rw [← hr0]
  have htl : t ≤ q := by omega
  have hlt := V_lt hr.ok
  rw [hr.len, pow32, ← hq] at hlt
  have hval : bsum (fun i => hasI (V xs) (0 + i)) t = V xs % 2 ^ r := by
    have h := bsum_down (V xs) 0 t
    simp only [Nat.pow_zero, Nat.div_one] at h
    have h' : bsum (fun i => hasI (V xs) (0 + i)) t = V xs % 2 ^ t := h
    rw [h', ht, hq]
    exact clip_low _ _ _ (by rw [← hq]; exact hlt)
  have HV := Lib.hid hval
  have hq2 : q ≤ 32000000 := by omega
  clear hval hlt ht hr0 hq
  go_enter Try.func62, Try.ntmps62
  go_wp2_with fail
  refine (refBits_any A n c xs 0 t _ hr (by omega) (by omega) (by omega) (by omega)).mono ?_
  rintro e w2 ⟨A2, n2, c2, rfl, hr2, b2⟩
  go_wp2
  go_ret
  rw [HV.out] at hr2
  exact Gives.mk hr2 b2
end Go.Proofs.Ythkblaodnfanfaa
