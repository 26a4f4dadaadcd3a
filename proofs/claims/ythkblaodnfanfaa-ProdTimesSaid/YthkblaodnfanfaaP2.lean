/- Contracts of prod.Word, prod.Mul, prod.All. -/
import Derived.Test.YthkblaodnfanfaaP1
namespace Go.Proofs.Ythkblaodnfanfaa
open Go.RowKit M

set_option maxHeartbeats 1000000 in
theorem word_any (A : Option Addr) (n c : Nat) (xs : List Nat) (x c0 : Nat) (w : World) (hr : Rd w A n c xs) (hn : n ≤ 1000000) (hx : x < 4294967296) (hc0 : c0 < 4294967296) :
    Calls Try.prog 69 #[.slice A n c, .int .u32 x, .int .u32 c0] w (Gives w (canon (V xs * x + c0))) := by
  go_enter Try.func69, Try.ntmps69
  go_wp2_with (first
    | (at_make; refine make_words _ rfl _ _ rfl _ (n + 1) rfl rfl (by omega) (by omega) ?_; intro g w1 hown0 hb0)
    | (go_at_call 75; refine (row_any w w1 g (n + 1) (n + 1) _ 0 A n c xs x c0 hb0 hown0 hr (by omega) (by omega) hx hc0).mono ?_; rintro e w2 ⟨zs, rfl, hown, hb, HV, HZ⟩)
    | (go_at_call 54; refine (norm_any _ _ _ _ _ hown.rd (by omega)).mono ?_; rintro e w3 ⟨A3, n3, c3, rfl, h3, b3⟩))
  go_ret
  have hv := HV.out
  rw [getD_zeros, V_zeros, Nat.pow_zero] at hv
  have hv2 : V zs = V xs * x + c0 := by omega
  rw [hv2] at h3
  exact Gives.mk h3 (below_next hb b3)

/-- Where the product row by row stands. -/
def Muls (xs ys zs : List Nat) (n j : Nat) : Prop := V zs = V xs * P ys j ∧ ∀ i, n + j ≤ i → zs.getD i 0 = 0
theorem Muls.first (xs ys : List Nat) (n N : Nat) : Muls xs ys (List.replicate N 0) n 0 := ⟨by rw [V_zeros, P_zero, Nat.mul_zero], fun i _ => getD_zeros N i⟩
theorem Muls.next {xs ys zs zs2 : List Nat} {n j y : Nat} (h : Muls xs ys zs n j) (hy : ys.getD j 0 = y) (h1 : V zs2 + 4294967296 ^ (j + n) * zs.getD (j + n) 0 = V zs + 4294967296 ^ j * (V xs * y + 0)) (h2 : ∀ i, j + n < i → zs2.getD i 0 = zs.getD i 0) : Muls xs ys zs2 n (j + 1) := by
  obtain ⟨a, b⟩ := h
  refine ⟨?_, fun i hi => ?_⟩
  · rw [b _ (by omega), Nat.add_zero] at h1
    rw [P_succ, hy, Nat.mul_add, ← a]
    have : V xs * (4294967296 ^ j * y) = 4294967296 ^ j * (V xs * y) := Nat.mul_left_comm _ _ _
    omega
  · rw [h2 i (by omega)]
    exact b i (by omega)
theorem Muls.last {xs ys zs : List Nat} {n k : Nat} (h : Muls xs ys zs n k) (hk : ys.length ≤ k) : V zs = V xs * V ys := by rw [h.1, P_all _ _ hk]

set_option maxHeartbeats 1000000 in
theorem mul_any (A B : Option Addr) (n c k d : Nat) (xs ys : List Nat) (w : World) (hr : Rd w A n c xs) (hs : Rd w B k d ys) (hn : n ≤ 1000000) (hk : k ≤ 1000000) :
    Calls Try.prog 66 #[.slice A n c, .slice B k d] w (Gives w (canon (V xs * V ys))) := by
  go_enter Try.func66, Try.ntmps66
  go_wp2_with (first
    | (at_make; refine make_words _ rfl _ _ rfl _ (n + k + 1) rfl rfl (by omega) (by omega) ?_; intro g w1 hown0 hb0))
  go_loopw [17] (fun vi wr => ∃ (j : Nat) (zs : List Nat), vi = .int .i64 j ∧ j ≤ k ∧ Own wr w.heap.size g (n + k + 1) (n + k + 1) zs ∧ Below w.heap.size w wr ∧ Muls xs ys zs n j) (fun vi _ => k - (intOf vi).toNat)
  case atStart => exact ⟨0, _, rfl, by omega, hown0, hb0, Muls.first _ _ _ _⟩
  case round =>
    clear hown0 hb0
    obtain ⟨j, zs, rfl, hj, hown, hb, hmul⟩ := hrel
    by_cases hlt : j < k
    · obtain ⟨bd, y, rfl, hcy, hy, HY⟩ := (hs.below hb).word j hlt
      go_wp2_with fail
      refine (row_any w wr g (n + k + 1) (n + k + 1) zs j A n c xs y 0 hb hown hr (by omega) (by omega) hy (by omega)).mono ?_
      rintro e w2 ⟨zs2, rfl, hown2, hb2, HV, HZ⟩
      go_wp2
      go_roundw
      case rel => exact ⟨j + 1, zs2, by go_num, by omega, hown2, hb2, hmul.next HY.out HV.out HZ.out⟩
      case measure => simp [intOf]; omega
    · obtain rfl : j = k := by omega
      have HV := Lib.hid (hmul.last (by rw [hs.len]; exact Nat.le_refl _))
      go_wp2_with fail
      refine (norm_any _ _ _ _ _ hown.rd (by omega)).mono ?_
      rintro e w2 ⟨A2, n2, c2, rfl, h2, b2⟩
      go_wp2
      go_ret
      rw [HV.out] at h2
      exact Gives.mk h2 (below_next hb b2)

/-- The product of the values of all. -/
def prodV : List (List Nat) → Nat
  | [] => 1
  | x :: xs => V x * prodV xs
theorem prodV_append (K L : List (List Nat)) : prodV (K ++ L) = prodV K * prodV L := by
  induction K with
  | nil => simp [prodV]
  | cons x K ih => simp only [List.cons_append, prodV, ih, Nat.mul_assoc]
theorem prodV_take_succ (L : List (List Nat)) (j : Nat) (hj : j < L.length) : prodV (L.take (j + 1)) = prodV (L.take j) * V (L.getD j []) := by
  rw [List.take_succ_eq_append_getElem hj, prodV_append, List.getD_eq_getElem?_getD, List.getElem?_eq_getElem hj]
  simp [prodV]
theorem prodV_lt (L : List (List Nat)) (hok : ∀ j, j < L.length → Ok (L.getD j [])) (j : Nat) (hj : j ≤ L.length) : prodV (L.take j) < 4294967296 ^ (words (L.take j) + 1) := by
  induction j with
  | zero => simp [prodV, words]
  | succ j ih =>
    rw [prodV_take_succ L j (by omega), words_take_succ L j (by omega)]
    have h1 := ih (by omega)
    have h2 := V_lt (hok j (by omega))
    rw [show words (L.take j) + (L.getD j []).length + 1 = words (L.take j) + 1 + (L.getD j []).length by omega, Nat.pow_add]
    exact Nat.mul_lt_mul_of_lt_of_le h1 (Nat.le_of_lt h2) (pow_pos _)
theorem words_take_le (L : List (List Nat)) (j : Nat) : words (L.take j) ≤ words L := by
  have h2 : words L = words (L.take j) + words (L.drop j) := by rw [← words_append, List.take_append_drop]
  omega
theorem prod_len (L : List (List Nat)) (hok : ∀ j, j < L.length → Ok (L.getD j [])) (M : Nat) (hM : words L ≤ M) (j : Nat) (hj : j ≤ L.length) : (canon (prodV (L.take j))).length ≤ M + 1 := by
  have h1 := canon_length_le (prodV_lt L hok j hj)
  have h2 := words_take_le L j
  omega

set_option maxHeartbeats 1000000 in
theorem all_any (A : Option Addr) (n c : Nat) (L : List (List Nat)) (w : World) (hr : RdL w A n c L) (hn : n ≤ 1000000) (hw : words L ≤ 100000) :
    Calls Try.prog 70 #[.slice A n c] w (Gives w (canon (prodV L))) := by
  have hoks : ∀ j, j < L.length → Ok (L.getD j []) := fun j hj => by
    obtain ⟨_, _, _, _, _, _, h⟩ := hr.at j (by rw [← hr.len]; exact hj)
    exact h.ok
  have HB := Lib.hid (prod_len L hoks 100000 hw)
  have HW := Lib.hid (fun j (hj : j < L.length) => Nat.le_trans (words_at L j hj) hw)
  clear hoks
  go_enter Try.func70, Try.ntmps70
  go_wp2_with fail
  refine (of_any 1 _ (by omega)).mono ?_
  rintro e w0 ⟨A0, n0, c0, rfl, h0, b0⟩
  go_wp2
  go_loopw [3, 9] (fun vs vi wr => ∃ (j : Nat) (A1 : Option Addr) (n1 c1 : Nat), vi = .int .i64 j ∧ j ≤ n ∧ vs = .slice A1 n1 c1 ∧ Rd wr A1 n1 c1 (canon (prodV (L.take j))) ∧ Below w.heap.size w wr) (fun _ vi _ => n - (intOf vi).toNat)
  case atStart => exact ⟨0, A0, n0, c0, rfl, by omega, rfl, h0, b0⟩
  case round =>
    clear h0 b0
    obtain ⟨j, A1, n1, c1, rfl, hj, rfl, hsum, hb⟩ := hrel
    by_cases hlt : j < n
    · obtain ⟨ad, A2, n2, c2, rfl, hcell, hr2⟩ := (hr.below hb).at j hlt
      have hn2 : n2 ≤ 100000 := by rw [← hr2.len]; exact HW.out j (by rw [hr.len]; exact hlt)
      have hn1 : n1 ≤ 100001 := by rw [← hsum.len]; exact HB.out j (by rw [hr.len]; omega)
      have HV := Lib.hid (prodV_take_succ L j (by rw [hr.len]; exact hlt))
      generalize L.getD j [] = ys at hr2 HV
      go_wp2_with fail
      refine (mul_any _ _ _ _ _ _ _ _ _ hsum hr2 (by omega) (by omega)).mono ?_
      rintro e w2 ⟨A4, n4, c4, rfl, hr4, hb4⟩
      rw [V_canon] at hr4
      go_wp2
      go_roundw
      case rel => exact ⟨j + 1, A4, n4, c4, by go_num, by omega, rfl, by rw [HV.out]; exact hr4, below_next hb hb4⟩
      case measure => simp [intOf]; omega
    · obtain rfl : j = n := by omega
      go_wp2
      go_ret
      rw [List.take_of_length_le (by rw [hr.len]; omega)] at hsum
      exact Gives.mk hsum hb
end Go.Proofs.Ythkblaodnfanfaa
