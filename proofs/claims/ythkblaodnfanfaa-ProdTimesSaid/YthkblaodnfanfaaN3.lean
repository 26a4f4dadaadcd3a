/- Contracts of package nat: Add of any lists, Sub, Gap. -/
import Derived.Test.YthkblaodnfanfaaN2
namespace Go.Proofs.Ythkblaodnfanfaa
open Go.RowKit M

/-- A slice of slices of words reads as a list of lists. -/
def RdL (w : World) (A : Option Addr) (n c : Nat) (L : List (List Nat)) : Prop :=
  L.length = n ∧ n ≤ c ∧ ∀ j, j < n → ∃ (ad : Addr) (A' : Option Addr) (n' c' : Nat), A = some ad ∧ w.cell? (ad.add j) = some (.slice A' n' c') ∧ Rd w A' n' c' (L.getD j [])
theorem RdL.len {w : World} {A : Option Addr} {n c : Nat} {L : List (List Nat)} (h : RdL w A n c L) : L.length = n := h.1
theorem RdL.at {w : World} {A : Option Addr} {n c : Nat} {L : List (List Nat)} (h : RdL w A n c L) (j : Nat) (hj : j < n) :
    ∃ (ad : Addr) (A' : Option Addr) (n' c' : Nat), A = some ad ∧ w.cell? (ad.add j) = some (.slice A' n' c') ∧ Rd w A' n' c' (L.getD j []) := h.2.2 j hj
theorem RdL.below {w w1 : World} {A : Option Addr} {n c : Nat} {L : List (List Nat)} (h : RdL w A n c L) (hb : Below w.heap.size w w1) : RdL w1 A n c L := by
  refine ⟨h.1, h.2.1, fun j hj => ?_⟩
  obtain ⟨ad, A', n', c', e, hc, hr⟩ := h.2.2 j hj
  exact ⟨ad, A', n', c', e, cell_below hb hc, hr.below hb⟩

/-- The sum of the values of all. -/
def tot : List (List Nat) → Nat
  | [] => 0
  | x :: xs => V x + tot xs
theorem tot_append (K L : List (List Nat)) : tot (K ++ L) = tot K + tot L := by
  induction K with
  | nil => simp [tot]
  | cons x K ih => simp only [List.cons_append, tot, ih]; omega
theorem tot_take_succ (L : List (List Nat)) (j : Nat) (hj : j < L.length) : tot (L.take (j + 1)) = tot (L.take j) + V (L.getD j []) := by
  rw [List.take_succ_eq_append_getElem hj, tot_append, List.getD_eq_getElem?_getD, List.getElem?_eq_getElem hj]
  simp [tot]
theorem tot_le (L : List (List Nat)) (M : Nat) (h : ∀ j, j < L.length → V (L.getD j []) < 4294967296 ^ M) (j : Nat) (hj : j ≤ L.length) : tot (L.take j) ≤ j * 4294967296 ^ M := by
  induction j with
  | zero => simp [tot]
  | succ j ih =>
    rw [tot_take_succ L j (by omega), Nat.add_mul]
    have := ih (by omega)
    have := h j (by omega)
    omega
/-- All lists are short enough, and they are not too many. -/
def Few (L : List (List Nat)) (M : Nat) : Prop := L.length ≤ 1099511627776 ∧ ∀ j, j < L.length → (L.getD j []).length ≤ M
theorem Few.bound {L : List (List Nat)} {M : Nat} (h : Few L M) (hok : ∀ j, j < L.length → Ok (L.getD j [])) (j : Nat) (hj : j ≤ L.length) : (canon (tot (L.take j))).length ≤ M + 2 := by
  have h1 := tot_le L M (fun i hi => by
    have h2 := V_lt (hok i hi)
    have h3 : 4294967296 ^ (L.getD i []).length ≤ 4294967296 ^ M := Nat.pow_le_pow_right (by omega) (h.2 i hi)
    exact Nat.lt_of_lt_of_le h2 h3) j hj
  apply canon_length_le
  have h4 : j < 4294967296 ^ 2 := by have := h.1; omega
  have h5 : j * 4294967296 ^ M < 4294967296 ^ 2 * 4294967296 ^ M := Nat.mul_lt_mul_of_pos_right h4 (pow_pos _)
  have e : 4294967296 ^ (M + 2) = 4294967296 ^ 2 * 4294967296 ^ M := by rw [Nat.pow_add, Nat.mul_comm]
  rw [e]
  exact Nat.lt_of_le_of_lt h1 h5

set_option maxHeartbeats 2000000 in
theorem addAll_any (A : Option Addr) (n c : Nat) (L : List (List Nat)) (w : World) (M : Nat) (hM : M ≤ 1099511627776) (hr : RdL w A n c L) (hf : Few L M) :
    Calls Try.prog 39 #[.slice A n c] w (Gives w (canon (tot L))) := by
  have hnl := hf.1
  rw [hr.len] at hnl
  have hoks : ∀ j, j < L.length → Ok (L.getD j []) := fun j hj => by
    obtain ⟨_, _, _, _, _, _, h⟩ := hr.at j (by rw [← hr.len]; exact hj)
    exact h.ok
  have hbd := hf.bound hoks
  have HF := Lib.hid hf
  have HB := Lib.hid hbd
  have HO := Lib.hid hoks
  clear hf hbd hoks
  go_enter Try.func39, Try.ntmps39
  go_wp2
  go_loopw [3, 8] (fun vs vi wr => ∃ (j : Nat) (A1 : Option Addr) (n1 c1 : Nat), vi = .int .i64 j ∧ j ≤ n ∧ vs = .slice A1 n1 c1 ∧ Rd wr A1 n1 c1 (canon (tot (L.take j))) ∧ Below w.heap.size w wr) (fun _ vi _ => n - (intOf vi).toNat)
  case atStart => exact ⟨0, none, 0, 0, rfl, by omega, rfl, by simpa [tot, canon_zero] using Rd.nil _ _ _, Below.refl _ _⟩
  case round =>
    obtain ⟨j, A1, n1, c1, rfl, hj, rfl, hsum, hb⟩ := hrel
    by_cases hlt : j < n
    · obtain ⟨ad, A2, n2, c2, rfl, hcell, hr2⟩ := (hr.below hb).at j hlt
      have hn2 : n2 ≤ M := by rw [← hr2.len]; exact HF.out.2 j (by rw [hr.len]; exact hlt)
      have hn1 : n1 ≤ M + 2 := by rw [← hsum.len]; exact HB.out j (by rw [hr.len]; omega)
      have hv := tot_take_succ L j (by rw [hr.len]; exact hlt)
      have HV := Lib.hid hv
      clear hv
      generalize L.getD j [] = ys at hr2 HV
      go_wp2_with (first
        | (go_at_call 71; (refine (trim_any _ _ _ _ _ hr2 (by omega)).mono ?_); rintro e w' ⟨m, hm, hcan, rfl, rfl⟩; have hr3 := hr2.take m hm; have HC := Lib.hid hcan; clear hcan)
        | (go_at_call 72; (refine (plus_any _ _ _ _ _ _ _ _ _ hsum hr3 (by omega) (by omega)).mono ?_); rintro e w2 ⟨A4, n4, c4, rfl, hr4, hb4⟩))
      go_roundw
      case rel =>
        refine ⟨j + 1, A4, n4, c4, by go_num, by omega, rfl, ?_, below_next hb hb4⟩
        rw [HV.out]
        rw [HC.out, V_canon, V_canon] at hr4
        exact hr4
      case measure => simp [intOf]; omega
    · obtain rfl : j = n := by omega
      go_wp2
      go_ret
      rw [List.take_of_length_le (by rw [hr.len]; omega)] at hsum
      exact Gives.mk hsum hb
end Go.Proofs.Ythkblaodnfanfaa
