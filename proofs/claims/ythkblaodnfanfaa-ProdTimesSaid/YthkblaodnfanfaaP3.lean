/- Contract of prod.Square: each product of two unlike words once, doubled, and the squares of the words. -/
import Derived.Test.YthkblaodnfanfaaP2
import Derived.Test.YthkblaodnfanfaaH
namespace Go.Proofs.Ythkblaodnfanfaa
open Go.RowKit M

/-- The products of unlike words, k rows of them. -/
def cross (xs : List Nat) : Nat → Nat
  | 0 => 0
  | k + 1 => cross xs k + 4294967296 ^ (2 * k + 1) * (V (xs.drop (k + 1)) * xs.getD k 0)
/-- The squares of the words, k of them. -/
def diag (xs : List Nat) : Nat → Nat
  | 0 => 0
  | k + 1 => diag xs k + 4294967296 ^ (2 * k) * (xs.getD k 0 * xs.getD k 0)
theorem square_split (xs : List Nat) (k : Nat) (hk : k ≤ xs.length) : V xs * V xs = 2 * cross xs k + diag xs k + 4294967296 ^ (2 * k) * (V (xs.drop k) * V (xs.drop k)) := by
  induction k with
  | zero => simp [cross, diag]
  | succ k ih =>
    rw [ih (by omega), cross, diag, V_drop xs k (by omega)]
    generalize V (xs.drop (k + 1)) = v
    generalize xs.getD k 0 = x
    have e1 : (x + 4294967296 * v) * (x + 4294967296 * v) = x * x + 2 * (4294967296 * (v * x)) + 4294967296 * (4294967296 * (v * v)) := by
      rw [Nat.add_mul, Nat.mul_add, Nat.mul_add]
      have a1 : x * (4294967296 * v) = 4294967296 * (v * x) := by rw [Nat.mul_left_comm, Nat.mul_comm x v]
      have a2 : 4294967296 * v * x = 4294967296 * (v * x) := Nat.mul_assoc _ _ _
      have a3 : 4294967296 * v * (4294967296 * v) = 4294967296 * (4294967296 * (v * v)) := by rw [Nat.mul_assoc, Nat.mul_left_comm v]
      omega
    have e2 : 4294967296 ^ (2 * (k + 1)) = 4294967296 ^ (2 * k) * 4294967296 * 4294967296 := by rw [show 2 * (k + 1) = 2 * k + 1 + 1 by omega, Nat.pow_succ, Nat.pow_succ]
    have e3 : 4294967296 ^ (2 * k + 1) = 4294967296 ^ (2 * k) * 4294967296 := Nat.pow_succ ..
    rw [e1, e2, e3]
    simp only [Nat.mul_add, Nat.mul_assoc, Nat.mul_left_comm 2]
    omega
theorem square_all (xs : List Nat) : V xs * V xs = 2 * cross xs xs.length + diag xs xs.length := by
  have h := square_split xs xs.length (Nat.le_refl _)
  rw [List.drop_eq_nil_of_le (Nat.le_refl _)] at h
  simpa [V] using h

def Crosses (xs zs : List Nat) (n k : Nat) : Prop := V zs = cross xs k ∧ ∀ i, n + k ≤ i → zs.getD i 0 = 0
theorem Crosses.next {xs zs zs2 : List Nat} {n k x : Nat} (h : Crosses xs zs n k) (hk : k < n) (hx : xs.getD k 0 = x)
    (h1 : V zs2 + 4294967296 ^ (2 * k + 1 + (n - (k + 1))) * zs.getD (2 * k + 1 + (n - (k + 1))) 0 = V zs + 4294967296 ^ (2 * k + 1) * (V (xs.drop (k + 1)) * x + 0)) (h2 : ∀ i, 2 * k + 1 + (n - (k + 1)) < i → zs2.getD i 0 = zs.getD i 0) : Crosses xs zs2 n (k + 1) := by
  obtain ⟨a, b⟩ := h
  refine ⟨?_, fun i hi => ?_⟩
  · rw [b _ (by omega)] at h1
    simp only [Nat.add_zero, Nat.mul_zero] at h1
    rw [cross, hx, ← a, h1]
  · rw [h2 i (by omega)]
    exact b i (by omega)
def Diags (xs zs : List Nat) (k : Nat) : Prop := V zs = diag xs k ∧ ∀ i, 2 * k ≤ i → zs.getD i 0 = 0
theorem Diags.next {xs zs : List Nat} {k x : Nat} (h : Diags xs zs k) (hz : 2 * k + 1 < zs.length) (hx : xs.getD k 0 = x) : Diags xs ((zs.set (2 * k + 1) (mulHi x x 0 0)).set (2 * k) (mulLo x x 0 0)) (k + 1) := by
  obtain ⟨a, b⟩ := h
  have e1 := V_set zs (2 * k + 1) (mulHi x x 0 0) hz
  have e2 := V_set (zs.set (2 * k + 1) (mulHi x x 0 0)) (2 * k) (mulLo x x 0 0) (by rw [List.length_set]; omega)
  rw [b _ (by omega)] at e1
  rw [getD_set, if_neg (by omega), b _ (by omega)] at e2
  have e3 := mul_parts x x 0 0
  refine ⟨?_, fun i hi => ?_⟩
  · rw [diag, hx, ← a]
    have e4 : 4294967296 ^ (2 * k) * (mulHi x x 0 0 * 4294967296 + mulLo x x 0 0) = 4294967296 ^ (2 * k) * (x * x) := by rw [e3]; rfl
    rw [Nat.mul_add] at e4
    have e5 : 4294967296 ^ (2 * k + 1) * mulHi x x 0 0 = 4294967296 ^ (2 * k) * (mulHi x x 0 0 * 4294967296) := by rw [Nat.pow_succ, Nat.mul_assoc, Nat.mul_comm 4294967296 (mulHi x x 0 0)]
    omega
  · rw [getD_set, if_neg (by omega), getD_set, if_neg (by omega)]
    exact b i (by omega)

set_option maxHeartbeats 4000000 in
theorem square_any (A : Option Addr) (n c : Nat) (xs : List Nat) (w : World) (hr : Rd w A n c xs) (hn : n ≤ 1000000) :
    Calls Try.prog 67 #[.slice A n c] w (Gives w (canon (V xs * V xs))) := by
  have hle := hr.le
  go_enter Try.func67, Try.ntmps67
  go_wp2_with (first
    | (at_make; refine make_words _ rfl _ _ rfl _ (2 * n + 1) rfl rfl (by omega) (by omega) ?_; intro g w1 hown0 hb0))
  go_loopw [17] (fun vi wr => ∃ (j : Nat) (zs : List Nat), vi = .int .i64 j ∧ j ≤ n ∧ Own wr w.heap.size g (2 * n + 1) (2 * n + 1) zs ∧ Below w.heap.size w wr ∧ Crosses xs zs n j) (fun vi _ => n - (intOf vi).toNat)
  case atStart => exact ⟨0, _, rfl, by omega, hown0, hb0, ⟨by rw [V_zeros]; rfl, fun i _ => getD_zeros _ i⟩⟩
  case round =>
    clear hown0 hb0
    obtain ⟨j, zs, rfl, hj, hown, hb, hcr⟩ := hrel
    by_cases hlt : j < n
    · obtain ⟨bd, y, rfl, hcy, hy, HY⟩ := (hr.below hb).word j hlt
      obtain ⟨A2, hcut, hrd⟩ := cutFrom (some bd) n c (j + 1) (by omega)
      rw [show ((j + 1 : Nat) : Int) = (j : Int) + 1 by omega] at hcut
      have hr2 := hrd w xs hr
      clear hrd
      go_wp2_with fail
      refine (row_any w wr g (2 * n + 1) (2 * n + 1) zs (2 * j + 1) A2 (n - (j + 1)) (c - (j + 1)) (xs.drop (j + 1)) y 0 hb hown hr2 (by omega) (by omega) hy (by omega)).mono ?_
      rintro e w2 ⟨zs2, rfl, hown2, hb2, HV, HZ⟩
      go_wp2
      go_roundw
      case rel => exact ⟨j + 1, zs2, by go_num, by omega, hown2, hb2, hcr.next hlt HY.out HV.out HZ.out⟩
      case measure => simp [intOf]; omega
    · obtain rfl : j = n := by omega
      have hcv : V zs = cross xs xs.length := by rw [hcr.1, hr.len]
      have HC := Lib.hid hcv
      have hcl := V_lt hown.ok
      rw [hown.len] at hcl
      have hul := up_lt (V zs) (2 * j + 1) 1 1 hcl (by omega)
      have HU := Lib.hid hul
      clear hcv hcl hul hcr
      go_wp2_with fail
      refine (twosUp_any _ _ _ _ 1 _ hown.rd (by omega)).mono ?_
      rw [show min (1 : Int).toNat 4096 = 1 by decide]
      rintro e w2 ⟨A2, n2, c2, rfl, h2, b2⟩
      have hb2 := below_next hb b2
      have hl2 : n2 ≤ 2 * j + 1 + 1 := len_canon h2 HU.out
      clear hown b2 hb
      go_wp2_with (first
        | (at_make; refine make_words _ rfl _ _ rfl _ (2 * j) rfl rfl (by omega) (by omega) ?_; intro g3 w3 hown3 hb3))
      go_loopw [41] (fun vi wr => ∃ (k : Nat) (ds : List Nat), vi = .int .i64 k ∧ k ≤ j ∧ Own wr w2.heap.size g3 (2 * j) (2 * j) ds ∧ Below w2.heap.size w2 wr ∧ Diags xs ds k) (fun vi _ => j - (intOf vi).toNat)
      case atStart => exact ⟨0, _, rfl, by omega, hown3, hb3, ⟨by rw [V_zeros]; rfl, fun i _ => getD_zeros _ i⟩⟩
      case round =>
        clear hown3 hb3
        obtain ⟨k, ds, rfl, hk, hown, hb, hdi⟩ := hrel
        have hbb := below_next hb2 hb
        by_cases hlt2 : k < j
        · obtain ⟨bd, x, rfl, hcx, hx, HX⟩ := (hr.below hbb).word k hlt2
          obtain ⟨y1, hcy1, hy1, _⟩ := hown.word (2 * k + 1) (by omega)
          obtain ⟨y2, hcy2, hy2, _⟩ := hown.word (2 * k) (by omega)
          have hf1 := hown.frozen (2 * k + 1)
          have hf2 := hown.frozen (2 * k)
          have hnx := hdi.next (by rw [hown.len]; omega) HX.out
          have HN := Lib.hid hnx
          have hmh := mulHi_lt x x 0 0 hx hx (by omega) (by omega)
          have hml := mulLo_lt x x 0 0
          clear hnx
          go_wp2_with fail
          refine (limbMul_any x x 0 0 _ hx hx (by omega) (by omega)).mono ?_
          rintro e w5 ⟨rfl, rfl⟩
          go_wp2
          go_roundw
          case rel => exact ⟨k + 1, _, by go_num, by omega, (hown.set (2 * k + 1) _ hmh).set (2 * k) _ hml, (hb.setCell hown.base_le _).setCell hown.base_le _, HN.out⟩
          case measure => simp [intOf]; omega
        · obtain rfl : k = j := by omega
          have hdv : V ds = diag xs xs.length := by rw [hdi.1, hr.len]
          have hsum : tot [canon (V zs * 2 ^ 1), ds] = V xs * V xs := by
            simp only [tot, V_canon]
            rw [HC.out, hdv, square_all xs]
            omega
          have HS := Lib.hid hsum
          clear hdv hsum
          go_wp2_with fail
          refine (addAll_any _ _ _ _ _ 2000002 (by omega) (rdL_lit2 _ _ _ _ _ _ _ _ _ (h2.below hb) hown.rd) (few2 _ _ _ (by rw [h2.len]; omega) (by rw [hown.len]; omega))).mono ?_
          rw [HS.out]
          rintro e w6 ⟨A6, n6, c6, rfl, h6, b6⟩
          go_wp2
          go_ret
          exact Gives.mk h6 (below_next hbb (below_next (below_new _ _) b6))
end Go.Proofs.Ythkblaodnfanfaa
