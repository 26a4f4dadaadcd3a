/- Contracts of package nat: trim. -/
import Derived.Test.YthkblaodnfanfaaK
namespace Go.Proofs.Ythkblaodnfanfaa
open Go.RowKit M

/-- What trim hands back: the same address, fewer words, no noughts at the end. -/
def Trims (w : World) (A : Option Addr) (n c : Nat) (xs : List Nat) (e : Ending) (w' : World) : Prop :=
  ∃ m, m ≤ n ∧ xs.take m = canon (V xs) ∧ e = .returned (.slice A m c) ∧ w = w'

/-- The loop's relation: m words are left, behind them nothing but noughts. -/
def Tops (xs : List Nat) (n m : Nat) : Prop := m ≤ n ∧ ∀ j, m ≤ j → xs.getD j 0 = 0
theorem Tops.start {xs : List Nat} {n : Nat} (h : xs.length = n) : Tops xs n n := ⟨Nat.le_refl _, fun j hj => getD_ge xs j (by omega)⟩
theorem Tops.next {xs : List Nat} {n m : Nat} (h : Tops xs n m) (h0 : 0 < m) (hz : xs.getD (m - 1) 0 = 0) : Tops xs n (m - 1) := by
  refine ⟨by have := h.1; omega, fun j hj => ?_⟩
  by_cases e : j = m - 1
  · rw [e]; exact hz
  · exact h.2 j (by omega)
theorem Tops.trims {w : World} {A : Option Addr} {n c m : Nat} {xs : List Nat} (hr : Rd w A n c xs) (h : Tops xs n m) (ht : m = 0 ∨ xs.getD (m - 1) 0 ≠ 0) : Trims w A n c xs (.returned (.slice A m c)) w :=
  ⟨m, h.1, canon_take hr.ok m (by rw [hr.len]; exact h.1) h.2 ht, rfl, rfl⟩

set_option maxHeartbeats 400000 in
theorem trim_any (A : Option Addr) (n c : Nat) (xs : List Nat) (w : World) (hr : Rd w A n c xs) (hn : n ≤ 35184372088832) :
    Calls Try.prog 71 #[.slice A n c] w (Trims w A n c xs) := by
  have hle := hr.le
  go_enter Try.func71, Try.ntmps71
  go_wp2
  go_loop [3] (fun v => ∃ m : Nat, v = .int .i64 m ∧ Tops xs n m) (fun v => (intOf v).toNat)
  case atStart => exact ⟨n, rfl, Tops.start hr.len⟩
  case round =>
    obtain ⟨m, rfl, ht⟩ := hrel
    have hmn : m ≤ n := ht.1
    have hcut := cutTo A n c m hmn hle
    by_cases h0 : 0 < m
    · obtain ⟨ad, x, rfl, hc, hx, hd⟩ := hr.word (m - 1) (by omega)
      by_cases hz : x ≤ 0
      · go_wp2
        go_round
        case rel => exact ⟨m - 1, by go_num, ht.next h0 (by rw [hd.out]; omega)⟩
        case measure => simp [intOf]; omega
      · go_wp2
        go_ret
        exact ht.trims hr (.inr (by rw [hd.out]; omega))
    · go_wp2
      go_ret
      exact ht.trims hr (.inl (by omega))
end Go.Proofs.Ythkblaodnfanfaa
