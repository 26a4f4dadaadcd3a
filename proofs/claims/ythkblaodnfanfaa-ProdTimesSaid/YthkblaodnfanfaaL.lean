/- Contracts of package limb: what each function on words computes; the world stays as it was. -/
import Derived.Test.YthkblaodnfanfaaK
import Derived.Test.YthkblaodnfanfaaB
import Derived.Laws.BitsLemmas
namespace Go.Proofs.Ythkblaodnfanfaa
open Go.RowKit M

def sumLo (x y c : Nat) : Nat := (x + y + c) % 4294967296
def sumHi (x y c : Nat) : Nat := (x + y + c) / 4294967296
/-- A word less two: how often 2^32 must be added. -/
def difHi (x y c : Nat) : Nat := (y + c + 4294967295 - x) / 4294967296
def difLo (x y c : Nat) : Nat := x + 4294967296 * difHi x y c - (y + c)
def mulLo (x y c d : Nat) : Nat := (x * y + c + d) % 4294967296
def mulHi (x y c d : Nat) : Nat := (x * y + c + d) / 4294967296

theorem ret2_u32 {a b c d : Int} (h : a = c) (k : b = d) : Ending.returned (.tuple #[.int .u32 a, .int .u32 b]) = .returned (.tuple #[.int .u32 c, .int .u32 d]) := by rw [h, k]
theorem ret_i64 {a b : Int} (h : a = b) : Ending.returned (.int .i64 a) = .returned (.int .i64 b) := by rw [h]

set_option maxHeartbeats 400000 in
theorem limbAdd_any (x y c : Nat) (w : World) (hx : x < 4294967296) (hy : y < 4294967296) (hc : c < 4294967296) :
    Calls Try.prog 25 #[.int .u32 x, .int .u32 y, .int .u32 c] w fun e w' => e = .returned (.tuple #[.int .u32 (sumLo x y c), .int .u32 (sumHi x y c)]) ∧ w = w' := by
  go_enter Try.func25, Try.ntmps25
  go_wp2
  all_goals
    go_ret2
    refine ⟨ret2_u32 ?_ ?_, rfl⟩
    · unfold sumLo; omega
    · unfold sumHi; omega

set_option maxHeartbeats 400000 in
theorem limbSub_any (x y c : Nat) (w : World) (hx : x < 4294967296) (hy : y < 4294967296) (hc : c < 4294967296) :
    Calls Try.prog 27 #[.int .u32 x, .int .u32 y, .int .u32 c] w fun e w' => e = .returned (.tuple #[.int .u32 (difLo x y c), .int .u32 (difHi x y c)]) ∧ w = w' := by
  go_enter Try.func27, Try.ntmps27
  go_wp2
  all_goals
    go_ret2
    refine ⟨ret2_u32 ?_ ?_, rfl⟩
    · unfold difLo difHi; omega
    · unfold difHi; omega

set_option maxHeartbeats 400000 in
theorem limbMul_any (x y c d : Nat) (w : World) (hx : x < 4294967296) (hy : y < 4294967296) (hc : c < 4294967296) (hd : d < 4294967296) :
    Calls Try.prog 29 #[.int .u32 x, .int .u32 y, .int .u32 c, .int .u32 d] w fun e w' => e = .returned (.tuple #[.int .u32 (mulHi x y c d), .int .u32 (mulLo x y c d)]) ∧ w = w' := by
  have hp : (x : Int) * (y : Int) ≤ 4294967295 * 4294967295 := by
    have h : x * y ≤ 4294967295 * 4294967295 := Nat.mul_le_mul (by omega) (by omega)
    have h2 : ((x * y : Nat) : Int) ≤ 4294967295 * 4294967295 := by omega
    rwa [Int.natCast_mul] at h2
  have hp0 : 0 ≤ (x : Int) * (y : Int) := Int.mul_nonneg (by omega) (by omega)
  go_enter Try.func29, Try.ntmps29
  go_wp2
  go_ret2
  refine ⟨ret2_u32 ?_ ?_, rfl⟩
  · unfold mulHi; omega
  · unfold mulLo; omega

def divQ (h l y : Nat) : Nat := if h < y then (h * 4294967296 + l) / y else 0
def divR (h l y : Nat) : Nat := if h < y then (h * 4294967296 + l) % y else 0
def divOk (h y : Nat) : Bool := decide (h < y)
theorem wraps_u64 (n : Int) (h0 : 0 ≤ n) (h1 : n < 2 ^ 64) : IntKind.u64.wrap n = n := by
  simp only [IntKind.wrap, IntKind.bits, IntKind.signed]
  simp
  omega
theorem join_u64 (h l : Int) (h0 : 0 ≤ h) (hh : h < 4294967296) (l0 : 0 ≤ l) (hl : l < 4294967296) : bits .or .u64 (h * 4294967296) l = h * 4294967296 + l :=
  bits_join .u64 64 (by decide) wraps_u64 32 _ _ (by omega) (by omega) (by omega) l0 (by omega) (by omega)

theorem ret3_div {a b c d : Int} {p q : Bool} (h : a = c) (k : b = d) (r : p = q) : Ending.returned (.tuple #[.int .u32 a, .int .u32 b, .bool p]) = .returned (.tuple #[.int .u32 c, .int .u32 d, .bool q]) := by rw [h, k, r]

set_option maxHeartbeats 400000 in
theorem limbDiv_any (x y c : Nat) (w : World) (hx : x < 4294967296) (hy : y < 4294967296) (hc : c < 4294967296) :
    Calls Try.prog 31 #[.int .u32 x, .int .u32 y, .int .u32 c] w fun e w' => e = .returned (.tuple #[.int .u32 (divQ x y c), .int .u32 (divR x y c), .bool (divOk x c)]) ∧ ∃ n, w' = w.drewN n := by
  by_cases hlt : x < c
  · have hor := join_u64 x y (by omega) (by omega) (by omega) (by omega)
    go_enter Try.func31, Try.ntmps31
    go_wp2
    go_quiet (fail)
    go_wp2
    go_ret3
    have hq : x * 4294967296 + y < 4294967296 * c := by omega
    have hq2 : (x * 4294967296 + y) / c < 4294967296 := by rw [Nat.div_lt_iff_lt_mul (by omega)]; exact hq
    have hr2 : (x * 4294967296 + y) % c < c := Nat.mod_lt _ (by omega)
    obtain ⟨a, ha⟩ : ∃ a : Nat, a = x * 4294967296 + y := ⟨_, rfl⟩
    have hi : (x : Int) * 4294967296 + (y : Int) = (a : Int) := by omega
    rw [← ha] at hq2 hr2
    refine ⟨ret3_div ?_ ?_ ?_, _, rfl⟩
    · unfold divQ; rw [if_pos hlt, ← ha, hi, ← Int.natCast_ediv]; generalize a / c = q at *; omega
    · unfold divR; rw [if_pos hlt, ← ha, hi, ← Int.natCast_emod]; generalize a % c = q at *; omega
    · unfold divOk; simp [hlt]
  · go_enter Try.func31, Try.ntmps31
    go_wp2
    go_ret3
    refine ⟨ret3_div ?_ ?_ ?_, 0, rfl⟩
    · unfold divQ; rw [if_neg hlt]; rfl
    · unfold divR; rw [if_neg hlt]; rfl
    · unfold divOk; simp [hlt]

/-- Where the search for the highest bit stands: the step, and how far the word reaches. -/
def Steps (x s : Nat) : Prop := (s = 16 ∧ x < 4294967296) ∨ (s = 8 ∧ x < 65536) ∨ (s = 4 ∧ x < 256) ∨ (s = 2 ∧ x < 16) ∨ (s = 1 ∧ x < 4) ∨ (s = 0 ∧ x < 2)
theorem blen_step {x0 n x : Nat} (s p : Nat) (hp : p = 2 ^ s) (H : Hid (blen x0 = n + blen x)) (h : p ≤ x) : Hid (blen x0 = (n + s) + blen (x / p)) := by
  have h1 := H.out
  have hpos : 0 < 2 ^ s := Nat.pow_pos (by omega)
  have h2 : x / 2 ^ s ≠ 0 := by
    intro h0
    have := (Nat.div_eq_zero_iff_lt hpos).1 h0
    omega
  have h3 := blen_shift s x h2
  refine Lib.hid ?_
  rw [hp]
  omega
theorem blen_end {x0 n x : Nat} (H : Hid (blen x0 = n + blen x)) (h : x < 2) : blen x0 = n + x := by
  rw [H.out]
  have : x = 0 ∨ x = 1 := by omega
  rcases this with rfl | rfl
  · rw [blen_zero]
  · rw [blen_one]

set_option maxHeartbeats 2000000 in
theorem limbLen_any (x0 : Nat) (w : World) (hx : x0 < 4294967296) :
    Calls Try.prog 20 #[.int .u32 x0] w fun e w' => e = .returned (.int .i64 (blen x0)) ∧ w = w' := by
  go_enter Try.func20, Try.ntmps20
  go_wp2
  go_loop [0, 3, 4] (fun vx vn vs => ∃ x n s : Nat, vx = .int .u32 x ∧ vn = .int .i64 n ∧ vs = .int .i64 s ∧ Steps x s ∧ Hid (blen x0 = n + blen x) ∧ n + 2 * s ≤ 32) (fun _ _ vs => (intOf vs).toNat)
  case atStart => exact ⟨x0, 0, 16, rfl, rfl, rfl, .inl ⟨rfl, hx⟩, Lib.hid (by omega), by omega⟩
  case round =>
    obtain ⟨x, n, s, rfl, rfl, rfl, hs, HB, hn⟩ := hrel
    rcases hs with ⟨rfl, h⟩ | ⟨rfl, h⟩ | ⟨rfl, h⟩ | ⟨rfl, h⟩ | ⟨rfl, h⟩ | ⟨rfl, h⟩
    · by_cases h2 : x < 65536
      · go_wp2
        go_round
        case rel => exact ⟨x, n, 8, rfl, rfl, rfl, .inr (.inl ⟨rfl, h2⟩), HB, by omega⟩
        case measure => simp [intOf]
      · go_wp2
        go_round
        case rel => exact ⟨x / 65536, n + 16, 8, by go_num, by go_num, rfl, .inr (.inl ⟨rfl, by omega⟩), blen_step 16 65536 rfl HB (by omega), by omega⟩
        case measure => simp [intOf]
    · by_cases h2 : x < 256
      · go_wp2
        go_round
        case rel => exact ⟨x, n, 4, rfl, rfl, rfl, .inr (.inr (.inl ⟨rfl, h2⟩)), HB, by omega⟩
        case measure => simp [intOf]
      · go_wp2
        go_round
        case rel => exact ⟨x / 256, n + 8, 4, by go_num, by go_num, rfl, .inr (.inr (.inl ⟨rfl, by omega⟩)), blen_step 8 256 rfl HB (by omega), by omega⟩
        case measure => simp [intOf]
    · by_cases h2 : x < 16
      · go_wp2
        go_round
        case rel => exact ⟨x, n, 2, rfl, rfl, rfl, .inr (.inr (.inr (.inl ⟨rfl, h2⟩))), HB, by omega⟩
        case measure => simp [intOf]
      · go_wp2
        go_round
        case rel => exact ⟨x / 16, n + 4, 2, by go_num, by go_num, rfl, .inr (.inr (.inr (.inl ⟨rfl, by omega⟩))), blen_step 4 16 rfl HB (by omega), by omega⟩
        case measure => simp [intOf]
    · by_cases h2 : x < 4
      · go_wp2
        go_round
        case rel => exact ⟨x, n, 1, rfl, rfl, rfl, .inr (.inr (.inr (.inr (.inl ⟨rfl, h2⟩)))), HB, by omega⟩
        case measure => simp [intOf]
      · go_wp2
        go_round
        case rel => exact ⟨x / 4, n + 2, 1, by go_num, by go_num, rfl, .inr (.inr (.inr (.inr (.inl ⟨rfl, by omega⟩)))), blen_step 2 4 rfl HB (by omega), by omega⟩
        case measure => simp [intOf]
    · by_cases h2 : x < 2
      · go_wp2
        go_round
        case rel => exact ⟨x, n, 0, rfl, rfl, rfl, .inr (.inr (.inr (.inr (.inr ⟨rfl, h2⟩)))), HB, by omega⟩
        case measure => simp [intOf]
      · go_wp2
        go_round
        case rel => exact ⟨x / 2, n + 1, 0, by go_num, by go_num, rfl, .inr (.inr (.inr (.inr (.inr ⟨rfl, by omega⟩)))), blen_step 1 2 rfl HB (by omega), by omega⟩
        case measure => simp [intOf]
    · go_wp2
      go_ret
      exact ⟨ret_i64 (by rw [blen_end HB h]; omega), rfl⟩

theorem tz_step {x0 n x : Nat} (s p : Nat) (hp : p = 2 ^ s) (H : Hid (tz x0 = n + tz x)) (h0 : 0 < x) (h : x % p = 0) : Hid (tz x0 = (n + s) + tz (x / p)) := by
  have h1 := H.out
  have h3 := tz_shift s x (by rw [← hp]; exact h) (by omega)
  refine Lib.hid ?_
  rw [hp]
  omega
theorem tz_end {x0 n x : Nat} (H : Hid (tz x0 = n + tz x)) (h : x % 2 = 1) (h0 : 0 < x0) : tzw x0 = n := by
  rw [tzw_pos (by omega), H.out, tz_odd h]
  rfl
theorem mask16 (x : Nat) (h : x < 4294967296) : bits .and .u32 (x : Int) 65535 = (x : Int) % 65536 := by
  have := bits_mask .u32 32 (by decide) (fun n a b => by rw [IntKind.wrap_u32]; omega) 16 (by decide) (x : Int) (by omega) (by omega)
  exact this
theorem mask1 (x : Nat) (h : x < 4294967296) : bits .and .u32 (x : Int) 1 = (x : Int) % 2 := by
  have := bits_mask .u32 32 (by decide) (fun n a b => by rw [IntKind.wrap_u32]; omega) 1 (by decide) (x : Int) (by omega) (by omega)
  exact this

/-- Where the count of the noughts stands. -/
def Noughts (x0 x n : Nat) : Prop := x < 4294967296 ∧ 0 < x ∧ tz x0 = n + tz x ∧ n + x ≤ 4294967312
theorem Noughts.next {x0 x n : Nat} (H : Noughts x0 x n) (h : x % 2 = 0) : Noughts x0 (x / 2) (n + 1) := by
  obtain ⟨h1, h2, h3, h4⟩ := H
  have := tz_even (by omega) h
  exact ⟨by omega, by omega, by omega, by omega⟩
theorem Noughts.first {x0 : Nat} (h : x0 < 4294967296) (h0 : 0 < x0) : Noughts x0 x0 0 := ⟨h, h0, by omega, by omega⟩
theorem Noughts.first16 {x0 : Nat} (h : x0 < 4294967296) (h0 : 0 < x0) (h16 : x0 % 65536 = 0) : Noughts x0 (x0 / 65536) 16 := by
  have := tz_shift 16 x0 h16 (by omega)
  exact ⟨by omega, by omega, this, by omega⟩
theorem Noughts.last {x0 x n : Nat} (H : Noughts x0 x n) (h : x % 2 = 1) (h0 : 0 < x0) : n = tzw x0 := by
  obtain ⟨h1, h2, h3, h4⟩ := H
  rw [tzw_pos (by omega), h3, tz_odd h]
  rfl

set_option maxHeartbeats 2000000 in
theorem limbZeros_any (x0 : Nat) (w : World) (hx : x0 < 4294967296) :
    Calls Try.prog 22 #[.int .u32 x0] w fun e w' => e = .returned (.int .i64 (tzw x0)) ∧ w = w' := by
  have hm := mask16 x0 hx
  by_cases h0 : 0 < x0
  · by_cases h16 : x0 % 65536 = 0
    all_goals
      go_enter Try.func22, Try.ntmps22
      go_wp2
      clear hm
      go_loop [0, 3] (fun vx vn => ∃ x n : Nat, vx = .int .u32 x ∧ vn = .int .i64 n ∧ Noughts x0 x n) (fun vx _ => (intOf vx).toNat)
      case atStart => first | exact ⟨x0 / 65536, 16, by go_num, rfl, Noughts.first16 hx h0 h16⟩ | exact ⟨x0, 0, rfl, rfl, Noughts.first hx h0⟩
      case round =>
        obtain ⟨x, n, rfl, rfl, H⟩ := hrel
        have h1 := H.1
        have h2 := H.2.1
        have h4 := H.2.2.2
        have hm := mask1 x h1
        by_cases he : x % 2 = 0
        · go_wp2
          go_round
          case rel => exact ⟨x / 2, n + 1, by go_num, by go_num, H.next he⟩
          case measure => simp [intOf]; omega
        · go_wp2
          go_ret
          exact ⟨ret_i64 (by rw [H.last (by omega) h0]), rfl⟩
  · obtain rfl : x0 = 0 := by omega
    go_enter Try.func22, Try.ntmps22
    go_wp2
    go_ret
    exact ⟨rfl, rfl⟩

/-! The document's answer for the words. -/
set_option maxHeartbeats 1000000 in
theorem refLen_any (x0 : Nat) (w : World) (hx : x0 < 4294967296) :
    Calls Try.prog 21 #[.int .u32 x0] w fun e w' => e = .returned (.int .i64 (blen x0)) ∧ w = w' := by
  go_enter Try.func21, Try.ntmps21
  go_wp2
  go_loop [0, 3] (fun vx vn => ∃ x n : Nat, vx = .int .u32 x ∧ vn = .int .i64 n ∧ x < 4294967296 ∧ Hid (blen x0 = n + blen x) ∧ n + x ≤ 4294967296) (fun vx _ => (intOf vx).toNat)
  case atStart => exact ⟨x0, 0, rfl, rfl, hx, Lib.hid (by omega), by omega⟩
  case round =>
    obtain ⟨x, n, rfl, rfl, h1, H, h3⟩ := hrel
    by_cases he : 0 < x
    · go_wp2
      go_round
      case rel => exact ⟨x / 2, n + 1, by go_num, by go_num, by omega, Lib.hid (by have := H.out; have := blen_pos (n := x) (by omega); omega), by omega⟩
      case measure => simp [intOf]; omega
    · go_wp2
      go_ret
      exact ⟨ret_i64 (by have h := H.out; obtain rfl : x = 0 := by omega
                         rw [blen_zero] at h; omega), rfl⟩

set_option maxHeartbeats 1000000 in
theorem refZeros_any (x0 : Nat) (w : World) (hx : x0 < 4294967296) :
    Calls Try.prog 23 #[.int .u32 x0] w fun e w' => e = .returned (.int .i64 (tzw x0)) ∧ w = w' := by
  by_cases h0 : 0 < x0
  · go_enter Try.func23, Try.ntmps23
    go_wp2
    go_loop [0, 3] (fun vx vn => ∃ x n : Nat, vx = .int .u32 x ∧ vn = .int .i64 n ∧ Noughts x0 x n) (fun vx _ => (intOf vx).toNat)
    case atStart => exact ⟨x0, 0, rfl, rfl, Noughts.first hx h0⟩
    case round =>
      obtain ⟨x, n, rfl, rfl, H⟩ := hrel
      have h1 := H.1
      have h2 := H.2.1
      have h4 := H.2.2.2
      by_cases he : x % 2 = 0
      · go_wp2
        go_round
        case rel => exact ⟨x / 2, n + 1, by go_num, by go_num, H.next he⟩
        case measure => simp [intOf]; omega
      · go_wp2
        go_ret
        exact ⟨ret_i64 (by rw [H.last (by omega) h0]), rfl⟩
  · obtain rfl : x0 = 0 := by omega
    go_enter Try.func23, Try.ntmps23
    go_wp2
    go_ret
    exact ⟨rfl, rfl⟩

set_option maxHeartbeats 400000 in
theorem refAdd_any (x y c : Nat) (w : World) (hx : x < 4294967296) (hy : y < 4294967296) (hc : c < 4294967296) :
    Calls Try.prog 26 #[.int .u32 x, .int .u32 y, .int .u32 c] w fun e w' => e = .returned (.tuple #[.int .u32 (sumLo x y c), .int .u32 (sumHi x y c)]) ∧ w = w' := by
  go_enter Try.func26, Try.ntmps26
  go_wp2
  go_ret2
  refine ⟨ret2_u32 ?_ ?_, rfl⟩
  · unfold sumLo; omega
  · unfold sumHi; omega

set_option maxHeartbeats 1000000 in
theorem refSub_any (x y c : Nat) (w : World) (hx : x < 4294967296) (hy : y < 4294967296) (hc : c < 4294967296) :
    Calls Try.prog 28 #[.int .u32 x, .int .u32 y, .int .u32 c] w fun e w' => e = .returned (.tuple #[.int .u32 (difLo x y c), .int .u32 (difHi x y c)]) ∧ w = w' := by
  go_enter Try.func28, Try.ntmps28
  go_wp2
  go_loop [8, 9] (fun vn vb => ∃ (n : Int) (b : Nat), vn = .int .i64 n ∧ vb = .int .u32 b ∧ Hid (n = (x : Int) - y - c + 4294967296 * b) ∧ n < 4294967296 ∧ b ≤ 2) (fun vn _ => (4294967296 - intOf vn).toNat)
  case atStart => exact ⟨_, 0, rfl, rfl, Lib.hid (by omega), by omega, by omega⟩
  case round =>
    obtain ⟨n, b, rfl, rfl, H, h2, h3⟩ := hrel
    by_cases he : n < 0
    · have hlo : -8589934592 ≤ n := by have := H.out; omega
      have hb : b ≤ 1 := by have := H.out; omega
      go_wp2
      go_round
      case rel => exact ⟨n + 4294967296, b + 1, by go_num, by go_num, Lib.hid (by have := H.out; omega), by omega, by omega⟩
      case measure => simp [intOf]; omega
    · go_wp2
      go_ret2
      have := H.out
      refine ⟨ret2_u32 ?_ ?_, rfl⟩
      · unfold difLo difHi; omega
      · unfold difHi; omega

/-- x * y by halves of 16 bits. -/
theorem halves (x y c d : Nat) : mulHi x y c d * 4294967296 + mulLo x y c d = x * y + c + d := by unfold mulHi mulLo; omega
theorem mulHi_lt (x y c d : Nat) (hx : x < 4294967296) (hy : y < 4294967296) (hc : c < 4294967296) (hd : d < 4294967296) : mulHi x y c d < 4294967296 := by
  have h : x * y ≤ 4294967295 * 4294967295 := Nat.mul_le_mul (by omega) (by omega)
  unfold mulHi
  omega
theorem mulLo_lt (x y c d : Nat) : mulLo x y c d < 4294967296 := Nat.mod_lt _ (by omega)
theorem mul_halves (x y c d : Nat) (hx : x < 4294967296) (hy : y < 4294967296) :
    (x / 65536 * y + (x % 65536 * y + c + d) / 65536) / 65536 = mulHi x y c d ∧ (x / 65536 * y + (x % 65536 * y + c + d) / 65536) % 65536 * 65536 + (x % 65536 * y + c + d) % 65536 = mulLo x y c d ∧
      x / 65536 * y ≤ 281474976710656 ∧ x % 65536 * y ≤ 281474976710656 := by
  have h1 : x / 65536 * y ≤ 65536 * 4294967296 := Nat.mul_le_mul (by omega) (by omega)
  have h2 : x % 65536 * y ≤ 65536 * 4294967296 := Nat.mul_le_mul (by omega) (by omega)
  have h3 : x * y = (x / 65536 * y) * 65536 + x % 65536 * y := by
    have : x = x / 65536 * 65536 + x % 65536 := by omega
    calc x * y = (x / 65536 * 65536 + x % 65536) * y := by rw [← this]
      _ = (x / 65536 * y) * 65536 + x % 65536 * y := by rw [Nat.add_mul, Nat.mul_right_comm]
  unfold mulHi mulLo
  rw [h3]
  generalize x / 65536 * y = p at *
  generalize x % 65536 * y = q at *
  refine ⟨?_, ?_, ?_, ?_⟩ <;> omega

set_option maxHeartbeats 1000000 in
theorem refMul_any (x y c d : Nat) (w : World) (hx : x < 4294967296) (hy : y < 4294967296) (hc : c < 4294967296) (hd : d < 4294967296) :
    Calls Try.prog 30 #[.int .u32 x, .int .u32 y, .int .u32 c, .int .u32 d] w fun e w' => e = .returned (.tuple #[.int .u32 (mulHi x y c d), .int .u32 (mulLo x y c d)]) ∧ w = w' := by
  obtain ⟨m1, m2, m3, m4⟩ := mul_halves x y c d hx hy
  have hlt := mulHi_lt x y c d hx hy hc hd
  have M1 := Lib.hid m1
  have M2 := Lib.hid m2
  clear m1 m2
  have p3 : (x : Int) / 65536 * (y : Int) ≤ 281474976710656 := by
    have : ((x / 65536 * y : Nat) : Int) ≤ 281474976710656 := by omega
    rwa [Int.natCast_mul, Int.natCast_ediv] at this
  have p4 : (x : Int) % 65536 * (y : Int) ≤ 281474976710656 := by
    have : ((x % 65536 * y : Nat) : Int) ≤ 281474976710656 := by omega
    rwa [Int.natCast_mul, Int.natCast_emod] at this
  have p5 : 0 ≤ (x : Int) / 65536 * (y : Int) := Int.mul_nonneg (by omega) (by omega)
  have p6 : 0 ≤ (x : Int) % 65536 * (y : Int) := Int.mul_nonneg (by omega) (by omega)
  clear m3 m4
  go_enter Try.func30, Try.ntmps30
  go_wp2
  go_ret2
  have e1 : ((x / 65536 : Nat) : Int) * (y : Int) = (x : Int) / 65536 * (y : Int) := by rw [Int.natCast_ediv]; rfl
  have e2 : ((x % 65536 : Nat) : Int) * (y : Int) = (x : Int) % 65536 * (y : Int) := by rw [Int.natCast_emod]; rfl
  refine ⟨ret2_u32 ?_ ?_, rfl⟩
  · have := M1.out; omega
  · rw [← M2.out]; omega

/-- Where the division bit by bit stands: d bits of the low word are still to come. -/
def Divs (hi lo y : Nat) (d b q r : Nat) : Prop :=
  d ≤ 32 ∧ b = 2 ^ d / 2 ∧ r < y ∧ q * y + r = hi * 2 ^ (32 - d) + lo / 2 ^ d ∧ q < 2 ^ (32 - d)
theorem Divs.first {hi lo y : Nat} (h : hi < y) (hl : lo < 4294967296) : Divs hi lo y 32 2147483648 0 hi := by
  refine ⟨by omega, by decide, h, ?_, by decide⟩
  have : lo / 2 ^ 32 = 0 := Nat.div_eq_of_lt (by omega)
  rw [this]
  simp
theorem Divs.last {hi lo y q r : Nat} {d : Nat} (H : Divs hi lo y d 0 q r) (hlt : hi < y) : q = divQ hi lo y ∧ r = divR hi lo y ∧ q < 4294967296 := by
  obtain ⟨h1, h2, h3, h4, h5⟩ := H
  have hd : d = 0 := by
    cases d with
    | zero => rfl
    | succ d =>
      have : 0 < 2 ^ d := Nat.pow_pos (by omega)
      rw [Nat.pow_succ, Nat.mul_div_cancel _ (by omega)] at h2
      omega
  subst hd
  simp only [Nat.sub_zero, Nat.pow_zero, Nat.div_one] at h4 h5
  have e : hi * 4294967296 + lo = r + y * q := by rw [Nat.mul_comm y q]; omega
  unfold divQ divR
  rw [if_pos hlt, if_pos hlt, e, Nat.add_mul_div_left _ _ (by omega), Nat.add_mul_mod_self_left, Nat.div_eq_of_lt h3, Nat.mod_eq_of_lt h3]
  exact ⟨by omega, rfl, h5⟩
theorem Divs.step {hi lo y d b q r : Nat} (H : Divs hi lo y d b q r) (hb : 0 < b) :
    b < 4294967296 ∧ q < 4294967296 ∧ (2 * r + lo / b % 2 < y → Divs hi lo y (d - 1) (b / 2) (2 * q) (2 * r + lo / b % 2)) ∧
      (y ≤ 2 * r + lo / b % 2 → Divs hi lo y (d - 1) (b / 2) (2 * q + 1) (2 * r + lo / b % 2 - y)) := by
  obtain ⟨h1, h2, h3, h4, h5⟩ := H
  obtain ⟨d, rfl⟩ : ∃ k, d = k + 1 := by
    cases d with
    | zero => exfalso; simp at h2; omega
    | succ d => exact ⟨d, rfl⟩
  have hp : 0 < 2 ^ d := Nat.pow_pos (by omega)
  have hb2 : b = 2 ^ d := by rw [h2, Nat.pow_succ, Nat.mul_div_cancel _ (by omega)]
  have e32 : 32 - d = (32 - (d + 1)) + 1 := by omega
  have hpow : 2 ^ (32 - d) = 2 * 2 ^ (32 - (d + 1)) := by rw [e32, Nat.pow_succ, Nat.mul_comm]
  have hdiv : lo / 2 ^ (d + 1) = lo / 2 ^ d / 2 := by rw [Nat.pow_succ, ← Nat.div_div_eq_div_mul]
  have key : 2 * (q * y) + (2 * r + lo / b % 2) = hi * 2 ^ (32 - d) + lo / 2 ^ d := by
    have e5 : hi * (2 * 2 ^ (32 - (d + 1))) = 2 * (hi * 2 ^ (32 - (d + 1))) := Nat.mul_left_comm _ _ _
    rw [hpow, e5, hb2]
    rw [hdiv] at h4
    generalize hi * 2 ^ (32 - (d + 1)) = u at *
    generalize lo / 2 ^ d = v at *
    generalize q * y = z at *
    omega
  have hb3 : b / 2 = 2 ^ d / 2 := by rw [hb2]
  refine ⟨?_, ?_, fun hlt => ⟨by omega, by rw [Nat.add_sub_cancel]; exact hb3, hlt, ?_, ?_⟩, fun hge => ⟨by omega, by rw [Nat.add_sub_cancel]; exact hb3, by omega, ?_, ?_⟩⟩
  · rw [hb2]
    have : 2 ^ d ≤ 2 ^ 31 := Nat.pow_le_pow_right (by omega) (by omega)
    omega
  · have : 2 ^ (32 - (d + 1)) ≤ 2 ^ 31 := Nat.pow_le_pow_right (by omega) (by omega)
    omega
  · rw [Nat.add_sub_cancel, ← key, Nat.mul_assoc]
  · rw [Nat.add_sub_cancel, hpow]; omega
  · rw [Nat.add_sub_cancel, ← key, Nat.add_mul, Nat.mul_assoc, Nat.one_mul]; omega
  · rw [Nat.add_sub_cancel, hpow]; omega

set_option maxHeartbeats 2000000 in
theorem refDiv_any (x y c : Nat) (w : World) (hx : x < 4294967296) (hy : y < 4294967296) (hc : c < 4294967296) :
    Calls Try.prog 32 #[.int .u32 x, .int .u32 y, .int .u32 c] w fun e w' => e = .returned (.tuple #[.int .u32 (divQ x y c), .int .u32 (divR x y c), .bool (divOk x c)]) ∧ w = w' := by
  by_cases hlt : x < c
  · go_enter Try.func32, Try.ntmps32
    go_wp2
    go_loop [9, 10, 11] (fun vq vr vb => ∃ q r b d : Nat, vq = .int .u64 q ∧ vr = .int .u64 r ∧ vb = .int .u64 b ∧ Divs x y c d b q r) (fun _ _ vb => (intOf vb).toNat)
    case atStart => exact ⟨0, x, 2147483648, 32, rfl, rfl, rfl, Divs.first hlt hy⟩
    case round =>
      obtain ⟨q, r, b, d, rfl, rfl, rfl, H⟩ := hrel
      by_cases hb : 0 < b
      · obtain ⟨b1, b2, b3, b4⟩ := H.step hb
        have hr := H.2.2.1
        obtain ⟨v, hv⟩ : ∃ v : Nat, v = y / b := ⟨_, rfl⟩
        have hv2 : (y : Int) / (b : Int) = (v : Int) := by rw [hv, Int.natCast_ediv]
        have hvl : v ≤ 4294967295 := by rw [hv]; exact Nat.le_trans (Nat.div_le_self _ _) (by omega)
        rw [← hv] at b3 b4
        have B3 := Lib.hid b3
        have B4 := Lib.hid b4
        have HV := Lib.hid hv
        clear b3 b4 hv
        by_cases ho : v % 2 = 1
        · by_cases hg : 2 * r + 1 < c
          · go_wp2
            go_round
            case rel => exact ⟨2 * q, 2 * r + v % 2, b / 2, d - 1, by go_num, by rw [ho]; go_num, by go_num, B3.out (by omega)⟩
            case measure => simp [intOf]; omega
          · go_wp2
            go_round
            case rel => exact ⟨2 * q + 1, 2 * r + v % 2 - c, b / 2, d - 1, by go_num, by rw [ho]; go_num, by go_num, B4.out (by omega)⟩
            case measure => simp [intOf]; omega
        · have ho' : v % 2 = 0 := by omega
          by_cases hg : 2 * r < c
          · go_wp2
            go_round
            case rel => exact ⟨2 * q, 2 * r + v % 2, b / 2, d - 1, by go_num, by rw [ho']; go_num, by go_num, B3.out (by omega)⟩
            case measure => simp [intOf]; omega
          · go_wp2
            go_round
            case rel => exact ⟨2 * q + 1, 2 * r + v % 2 - c, b / 2, d - 1, by go_num, by rw [ho']; go_num, by go_num, B4.out (by omega)⟩
            case measure => simp [intOf]; omega
      · obtain rfl : b = 0 := by omega
        obtain ⟨l1, l2, l3⟩ := H.last hlt
        have hr := H.2.2.1
        go_wp2
        go_ret3
        refine ⟨ret3_div ?_ ?_ ?_, rfl⟩
        · rw [← l1] <;> omega
        · rw [← l2] <;> omega
        · unfold divOk; simp [hlt]
  · go_enter Try.func32, Try.ntmps32
    go_wp2
    go_ret3
    refine ⟨ret3_div ?_ ?_ ?_, rfl⟩
    · unfold divQ; rw [if_neg hlt]; rfl
    · unfold divR; rw [if_neg hlt]; rfl
    · unfold divOk; simp [hlt]
end Go.Proofs.Ythkblaodnfanfaa
