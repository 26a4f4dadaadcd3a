/- Contracts of package nat: plus, Add, Sub, Gap: sums and differences of lists, by their values. -/
import Derived.Test.YthkblaodnfanfaaN1
namespace Go.Proofs.Ythkblaodnfanfaa
open Go.RowKit M

/-- The value of the first j words. -/
def P (xs : List Nat) (j : Nat) : Nat := V (xs.take j)
theorem P_zero (xs : List Nat) : P xs 0 = 0 := by simp [P, V]
theorem P_succ (xs : List Nat) (j : Nat) : P xs (j + 1) = P xs j + 4294967296 ^ j * xs.getD j 0 := by
  unfold P
  by_cases h : j < xs.length
  · exact V_take_succ xs j h
  · rw [List.take_of_length_le (by omega), List.take_of_length_le (by omega), getD_ge xs j (by omega)]
    omega
theorem P_all (xs : List Nat) (j : Nat) (h : xs.length ≤ j) : P xs j = V xs := by unfold P; rw [List.take_of_length_le h]
theorem P_set (xs : List Nat) (j s : Nat) (h : j < xs.length) : P (xs.set j s) (j + 1) = P xs j + 4294967296 ^ j * s := by
  rw [P_succ, getD_set, if_pos ⟨rfl, h⟩]
  unfold P
  rw [List.take_set_of_le (Nat.le_refl j)]

/-- Where the sum word by word stands. -/
def Sums (xs ys zs : List Nat) (j cy : Nat) : Prop := cy ≤ 1 ∧ P zs j + 4294967296 ^ j * cy = P xs j + P ys j
theorem Sums.first (xs ys zs : List Nat) : Sums xs ys zs 0 0 := ⟨by omega, by simp [P_zero]⟩
theorem Sums.next {xs ys zs : List Nat} {j cy x y : Nat} (h : Sums xs ys zs j cy) (hj : j < zs.length) (hx : Hid (xs.getD j 0 = x)) (hy : ys.getD j 0 = y) (hxl : x < 4294967296) (hyl : y < 4294967296) :
    Sums xs ys (zs.set j (sumLo x y cy)) (j + 1) (sumHi x y cy) := by
  obtain ⟨h1, h2⟩ := h
  refine ⟨by unfold sumHi; omega, ?_⟩
  rw [P_set _ _ _ hj, P_succ, P_succ, hx.out, hy, Nat.pow_succ, Nat.mul_assoc]
  have hd : sumLo x y cy + 4294967296 * sumHi x y cy = x + y + cy := by unfold sumLo sumHi; omega
  have e : 4294967296 ^ j * (sumLo x y cy + 4294967296 * sumHi x y cy) = 4294967296 ^ j * (x + y + cy) := by rw [hd]
  simp only [Nat.mul_add] at e ⊢
  omega
theorem Sums.last {xs ys zs : List Nat} {n cy : Nat} (h : Sums xs ys zs n cy) (hz : zs.length = n + 1) (hx : xs.length ≤ n) (hy : ys.length ≤ n) : V (zs.set n cy) = V xs + V ys := by
  have := P_set zs n cy (by omega)
  rw [P_all _ _ (by rw [List.length_set]; omega)] at this
  rw [this, h.2, P_all _ _ hx, P_all _ _ hy]


set_option maxHeartbeats 2000000 in
theorem plus_ge (A B : Option Addr) (n c k d : Nat) (xs ys : List Nat) (w : World) (hr : Rd w A n c xs) (hs : Rd w B k d ys) (hn : n ≤ 35184372088831) (hkn : k ≤ n) :
    Calls Try.prog 72 #[.slice A n c, .slice B k d] w (Gives w (canon (V xs + V ys))) := by
  go_enter Try.func72, Try.ntmps72
  go_wp2_with (first
    | (go_at_call 73; (refine (fresh_any A n c 1 xs _ hr (by omega) (by omega)).mono ?_); rintro e w1 ⟨g, rfl, hown0, hb0⟩; generalize xs ++ List.replicate 1 0 = O0 at hown0))
  go_loopw [6, 20] (fun vc vi wr => ∃ (j cy : Nat) (O : List Nat), vi = .int .i64 j ∧ j ≤ n ∧ vc = .int .u32 cy ∧ Own wr w.heap.size g (n + 1) (n + 1) O ∧ Below w.heap.size w wr ∧ Sums xs ys O j cy) (fun _ vi _ => n - (intOf vi).toNat)
  case atStart => exact ⟨0, 0, O0, rfl, by omega, rfl, hown0, hb0, Sums.first _ _ _⟩
  case round =>
    clear hown0 hb0
    obtain ⟨j, cy, O, rfl, hj, rfl, hown, hb, hsum⟩ := hrel
    have hcy := hsum.1
    have hgl := hown.lt
    by_cases hlt : j < n
    · obtain ⟨ad, x, rfl, hcx, hx, HX⟩ := (hr.below hb).word j hlt
      have hfz := hown.frozen j
      by_cases hjk : j < k
      · obtain ⟨bd, y, rfl, hcy2, hy, HY⟩ := (hs.below hb).word j hjk
        obtain ⟨z, hcz, hz, _⟩ := hown.word j (by omega)
        go_wp2_with (first
          | (go_at_call 25; (refine (limbAdd_any x y cy _ hx hy (by omega)).mono ?_); rintro e w' ⟨rfl, rfl⟩))
        go_roundw
        case rel => exact ⟨j + 1, _, _, by go_num, by omega, rfl, hown.set j _ (Nat.mod_lt _ (by omega)), hb.setCell hown.base_le _, hsum.next (by rw [hown.len]; omega) HX HY.out hx hy⟩
        case measure => simp [intOf]; omega
      · obtain ⟨z, hcz, hz, _⟩ := hown.word j (by omega)
        go_wp2_with (first
          | (go_at_call 25; (refine (limbAdd_any x 0 cy _ hx (by omega) (by omega)).mono ?_); rintro e w' ⟨rfl, rfl⟩))
        go_roundw
        case rel => exact ⟨j + 1, _, _, by go_num, by omega, rfl, hown.set j _ (Nat.mod_lt _ (by omega)), hb.setCell hown.base_le _, hsum.next (by rw [hown.len]; omega) HX (getD_ge ys j (by rw [hs.len]; omega)) hx (by omega)⟩
        case measure => simp [intOf]; omega
    · obtain rfl : j = n := by omega
      have hfz := hown.frozen j
      obtain ⟨z, hcz, hz, _⟩ := hown.word j (by omega)
      have hown2 := hown.set j cy (by omega)
      have hv := hsum.last hown.len (by rw [hr.len]; omega) (by rw [hs.len]; omega)
      have HV := Lib.hid hv
      have hb2 := hb.setCell (p := ⟨g, j, none⟩) hown.base_le (.int .u32 (cy : Int))
      clear hv
      go_wp2_with (first
        | (go_at_call 71; (refine (trim_any _ _ _ _ _ hown2.rd (by omega)).mono ?_); rintro e w' ⟨m, hm, hcan, rfl, rfl⟩; have HC := Lib.hid hcan; clear hcan))
      go_ret
      have h := hown2.rd.take m hm
      rw [HC.out, HV.out] at h
      exact Gives.mk h hb2

set_option maxHeartbeats 2000000 in
theorem plus_lt (A B : Option Addr) (n c k d : Nat) (xs ys : List Nat) (w : World) (hr : Rd w A n c xs) (hs : Rd w B k d ys) (hn : n ≤ 35184372088831) (hkn : k < n) :
    Calls Try.prog 72 #[.slice B k d, .slice A n c] w (Gives w (canon (V xs + V ys))) := by
  go_enter Try.func72, Try.ntmps72
  go_wp2_with (first
    | (go_at_call 73; (refine (fresh_any A n c 1 xs _ hr (by omega) (by omega)).mono ?_); rintro e w1 ⟨g, rfl, hown0, hb0⟩; generalize xs ++ List.replicate 1 0 = O0 at hown0))
  go_loopw [6, 20] (fun vc vi wr => ∃ (j cy : Nat) (O : List Nat), vi = .int .i64 j ∧ j ≤ n ∧ vc = .int .u32 cy ∧ Own wr w.heap.size g (n + 1) (n + 1) O ∧ Below w.heap.size w wr ∧ Sums xs ys O j cy) (fun _ vi _ => n - (intOf vi).toNat)
  case atStart => exact ⟨0, 0, O0, rfl, by omega, rfl, hown0, hb0, Sums.first _ _ _⟩
  case round =>
    clear hown0 hb0
    obtain ⟨j, cy, O, rfl, hj, rfl, hown, hb, hsum⟩ := hrel
    have hcy := hsum.1
    have hgl := hown.lt
    by_cases hlt : j < n
    · obtain ⟨ad, x, rfl, hcx, hx, HX⟩ := (hr.below hb).word j hlt
      have hfz := hown.frozen j
      by_cases hjk : j < k
      · obtain ⟨bd, y, rfl, hcy2, hy, HY⟩ := (hs.below hb).word j hjk
        obtain ⟨z, hcz, hz, _⟩ := hown.word j (by omega)
        go_wp2_with (first
          | (go_at_call 25; (refine (limbAdd_any x y cy _ hx hy (by omega)).mono ?_); rintro e w' ⟨rfl, rfl⟩))
        go_roundw
        case rel => exact ⟨j + 1, _, _, by go_num, by omega, rfl, hown.set j _ (Nat.mod_lt _ (by omega)), hb.setCell hown.base_le _, hsum.next (by rw [hown.len]; omega) HX HY.out hx hy⟩
        case measure => simp [intOf]; omega
      · obtain ⟨z, hcz, hz, _⟩ := hown.word j (by omega)
        go_wp2_with (first
          | (go_at_call 25; (refine (limbAdd_any x 0 cy _ hx (by omega) (by omega)).mono ?_); rintro e w' ⟨rfl, rfl⟩))
        go_roundw
        case rel => exact ⟨j + 1, _, _, by go_num, by omega, rfl, hown.set j _ (Nat.mod_lt _ (by omega)), hb.setCell hown.base_le _, hsum.next (by rw [hown.len]; omega) HX (getD_ge ys j (by rw [hs.len]; omega)) hx (by omega)⟩
        case measure => simp [intOf]; omega
    · obtain rfl : j = n := by omega
      have hfz := hown.frozen j
      obtain ⟨z, hcz, hz, _⟩ := hown.word j (by omega)
      have hown2 := hown.set j cy (by omega)
      have hv := hsum.last hown.len (by rw [hr.len]; omega) (by rw [hs.len]; omega)
      have HV := Lib.hid hv
      have hb2 := hb.setCell (p := ⟨g, j, none⟩) hown.base_le (.int .u32 (cy : Int))
      clear hv
      go_wp2_with (first
        | (go_at_call 71; (refine (trim_any _ _ _ _ _ hown2.rd (by omega)).mono ?_); rintro e w' ⟨m, hm, hcan, rfl, rfl⟩; have HC := Lib.hid hcan; clear hcan))
      go_ret
      have h := hown2.rd.take m hm
      rw [HC.out, HV.out] at h
      exact Gives.mk h hb2

theorem plus_any (A B : Option Addr) (n c k d : Nat) (xs ys : List Nat) (w : World) (hr : Rd w A n c xs) (hs : Rd w B k d ys) (hn : n ≤ 35184372088831) (hk : k ≤ 35184372088831) :
    Calls Try.prog 72 #[.slice A n c, .slice B k d] w (Gives w (canon (V xs + V ys))) := by
  by_cases h : n < k
  · rw [Nat.add_comm]; exact plus_lt B A k d n c ys xs w hs hr hk h
  · exact plus_ge A B n c k d xs ys w hr hs hn (by omega)
end Go.Proofs.Ythkblaodnfanfaa
