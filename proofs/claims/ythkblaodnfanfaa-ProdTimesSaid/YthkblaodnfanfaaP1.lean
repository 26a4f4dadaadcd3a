/- Contract of prod.row: a list times a word is added to a row, from a place on. -/
import Derived.Test.YthkblaodnfanfaaG
namespace Go.Proofs.Ythkblaodnfanfaa
open Go.RowKit M

/-- Where the row stands: j words of xs done, cy carried. -/
def Rows1 (xs zs0 zs : List Nat) (pl x c0 j cy : Nat) : Prop :=
  V zs + 4294967296 ^ (pl + j) * cy = V zs0 + 4294967296 ^ pl * (P xs j * x + c0) ∧ ∀ i, pl + j ≤ i → zs.getD i 0 = zs0.getD i 0
theorem Rows1.first (xs zs : List Nat) (pl x c0 : Nat) : Rows1 xs zs zs pl x c0 0 c0 := by
  refine ⟨by rw [P_zero, Nat.zero_mul, Nat.zero_add, Nat.add_zero], fun _ _ => rfl⟩
theorem mul_parts (x y o cy : Nat) : mulHi x y o cy * 4294967296 + mulLo x y o cy = x * y + o + cy := by unfold mulHi mulLo; omega
theorem Rows1.next {xs zs0 zs : List Nat} {pl x c0 j cy y o : Nat} (h : Rows1 xs zs0 zs pl x c0 j cy) (hj : pl + j < zs.length) (hy : xs.getD j 0 = y) (ho : zs.getD (pl + j) 0 = o) :
    Rows1 xs zs0 (zs.set (pl + j) (mulLo x y o cy)) pl x c0 (j + 1) (mulHi x y o cy) := by
  obtain ⟨h1, h2⟩ := h
  refine ⟨?_, fun i hi => ?_⟩
  · have e1 := V_set zs (pl + j) (mulLo x y o cy) hj
    rw [ho] at e1
    have e2 := mul_parts x y o cy
    rw [P_succ, hy, Nat.add_mul, ← Nat.add_assoc, Nat.pow_succ]
    have e3 : 4294967296 ^ pl * (P xs j * x + 4294967296 ^ j * y * x + c0) = 4294967296 ^ pl * (P xs j * x + c0) + 4294967296 ^ (pl + j) * (x * y) := by
      rw [Nat.pow_add, Nat.mul_add, Nat.mul_add, Nat.mul_add]
      have : 4294967296 ^ pl * (4294967296 ^ j * y * x) = 4294967296 ^ pl * 4294967296 ^ j * (x * y) := by
        simp only [Nat.mul_assoc, Nat.mul_comm, Nat.mul_left_comm]
      omega
    rw [e3, ← Nat.add_assoc, ← h1]
    have e4 : 4294967296 ^ (pl + j) * (mulHi x y o cy * 4294967296 + mulLo x y o cy) = 4294967296 ^ (pl + j) * (x * y + o + cy) := by rw [e2]
    simp only [Nat.mul_add] at e4
    have e5 : 4294967296 ^ (pl + j) * 4294967296 * mulHi x y o cy = 4294967296 ^ (pl + j) * (mulHi x y o cy * 4294967296) := by
      rw [Nat.mul_assoc, Nat.mul_comm 4294967296 (mulHi x y o cy)]
    omega
  · rw [getD_set, if_neg (by omega)]
    exact h2 i (by omega)
theorem Rows1.last {xs zs0 zs : List Nat} {pl x c0 n cy : Nat} (h : Rows1 xs zs0 zs pl x c0 n cy) (hn : pl + n < zs.length) (hx : xs.length ≤ n) :
    V (zs.set (pl + n) cy) + 4294967296 ^ (pl + n) * zs0.getD (pl + n) 0 = V zs0 + 4294967296 ^ pl * (V xs * x + c0) ∧ ∀ i, pl + n < i → (zs.set (pl + n) cy).getD i 0 = zs0.getD i 0 := by
  obtain ⟨h1, h2⟩ := h
  refine ⟨?_, fun i hi => ?_⟩
  · have e1 := V_set zs (pl + n) cy hn
    rw [h2 _ (Nat.le_refl _)] at e1
    rw [P_all _ _ hx] at h1
    omega
  · rw [getD_set, if_neg (by omega)]
    exact h2 i (by omega)

/-- What row does to the row that it is handed. -/
def RowDone (w0 : World) (g N C : Nat) (zs0 xs : List Nat) (pl n x c0 : Nat) (e : Ending) (w' : World) : Prop :=
  ∃ zs, e = .returned (.tuple #[]) ∧ Own w' w0.heap.size g N C zs ∧ Below w0.heap.size w0 w' ∧
    Hid (V zs + 4294967296 ^ (pl + n) * zs0.getD (pl + n) 0 = V zs0 + 4294967296 ^ pl * (V xs * x + c0)) ∧ Hid (∀ i, pl + n < i → zs.getD i 0 = zs0.getD i 0)

set_option maxHeartbeats 2000000 in
theorem row_any (w0 w : World) (g N C : Nat) (zs0 : List Nat) (pl : Nat) (A : Option Addr) (n c : Nat) (xs : List Nat) (x c0 : Nat) (hb0 : Below w0.heap.size w0 w) (hown0 : Own w w0.heap.size g N C zs0) (hr : Rd w0 A n c xs)
    (hN : N ≤ 35184372088832) (hpl : pl + n < N) (hx : x < 4294967296) (hc0 : c0 < 4294967296) :
    Calls Try.prog 75 #[.slice (some ⟨g, 0, none⟩) N C, .int .i64 pl, .slice A n c, .int .u32 x, .int .u32 c0] w (RowDone w0 g N C zs0 xs pl n x c0) := by
  go_enter Try.func75, Try.ntmps75
  go_wp2
  go_loopw [4, 14] (fun vc vi wr => ∃ (j cy : Nat) (zs : List Nat), vi = .int .i64 j ∧ j ≤ n ∧ vc = .int .u32 cy ∧ cy < 4294967296 ∧ Own wr w0.heap.size g N C zs ∧ Below w0.heap.size w0 wr ∧ Rows1 xs zs0 zs pl x c0 j cy) (fun _ vi _ => n - (intOf vi).toNat)
  case atStart => exact ⟨0, c0, zs0, rfl, by omega, rfl, hc0, hown0, hb0, Rows1.first _ _ _ _ _⟩
  case round =>
    clear hown0 hb0
    obtain ⟨j, cy, zs, rfl, hj, rfl, hcy, hown, hb, hrow⟩ := hrel
    by_cases hlt : j < n
    · obtain ⟨ad, y, rfl, hcx, hy, HY⟩ := (hr.below hb).word j hlt
      obtain ⟨o, hco, ho, HO⟩ := hown.word (pl + j) (by omega)
      have hf := hown.frozen (pl + j)
      have hnx := hrow.next (by rw [hown.len]; omega) HY.out HO.out
      have hml := mulLo_lt x y o cy
      have hmh := mulHi_lt x y o cy hx hy ho hcy
      have HN := Lib.hid hnx
      clear hnx
      go_wp2_with fail
      refine (limbMul_any x y o cy _ hx hy ho hcy).mono ?_
      rintro e w1 ⟨rfl, rfl⟩
      go_wp2
      go_roundw
      case rel => exact ⟨j + 1, _, _, by go_num, by omega, rfl, hmh, hown.set (pl + j) _ hml, hb.setCell hown.base_le _, HN.out⟩
      case measure => simp [intOf]; omega
    · obtain rfl : j = n := by omega
      obtain ⟨o, hco, ho, HO⟩ := hown.word (pl + j) hpl
      have hf := hown.frozen (pl + j)
      have hl := hrow.last (by rw [hown.len]; exact hpl) (by rw [hr.len]; exact Nat.le_refl _)
      have HL1 := Lib.hid hl.1
      have HL2 := Lib.hid hl.2
      clear hl
      go_wp2
      go_end0
      exact ⟨_, rfl, hown.set (pl + j) cy hcy, hb.setCell hown.base_le _, HL1, HL2⟩
end Go.Proofs.Ythkblaodnfanfaa
