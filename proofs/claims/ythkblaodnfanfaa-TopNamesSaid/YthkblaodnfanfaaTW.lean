/- The law TopNames, walked. -/
import Derived.Test.YthkblaodnfanfaaG
namespace Go.Proofs.Ythkblaodnfanfaa
open Go.RowKit M

/-- A row of numbers that is known. -/
def CellsI (w : World) (g n : Nat) (f : Nat → Int) : Prop := ∀ k, k < n → w.cell? ⟨g, k, none⟩ = some (.int .i64 (f k))
theorem CellsI.below {w w1 : World} {g n : Nat} {f : Nat → Int} (h : CellsI w g n f) (hb : Below w.heap.size w w1) : CellsI w1 g n f := fun k hk => cell_below hb (h k hk)
def lims (k : Nat) : Int := [4000, 60, 40, 300, 10, 12, 6, 6, 8, 8, 200, 4096, 1024].getD k 0
def nexts (k : Nat) : Int := (k : Int) + 1
theorem kinds9 (w : World) : CellsI (w.alloc (.cells #[.int .i64 0, .int .i64 1, .int .i64 2, .int .i64 3, .int .i64 4, .int .i64 5, .int .i64 6, .int .i64 7, .int .i64 8] 3)) w.heap.size 9 (fun k => (k : Int)) := by
  intro k hk
  rw [← add_plain, cell_new]
  obtain rfl | rfl | rfl | rfl | rfl | rfl | rfl | rfl | rfl : k = 0 ∨ k = 1 ∨ k = 2 ∨ k = 3 ∨ k = 4 ∨ k = 5 ∨ k = 6 ∨ k = 7 ∨ k = 8 := by omega
  all_goals rfl
theorem lims13 (w : World) : CellsI (w.alloc (.cells #[.int .i64 4000, .int .i64 60, .int .i64 40, .int .i64 300, .int .i64 10, .int .i64 12, .int .i64 6, .int .i64 6, .int .i64 8, .int .i64 8, .int .i64 200, .int .i64 4096, .int .i64 1024] 3)) w.heap.size 13 (lims) := by
  intro k hk
  rw [← add_plain, cell_new]
  obtain rfl | rfl | rfl | rfl | rfl | rfl | rfl | rfl | rfl | rfl | rfl | rfl | rfl : k = 0 ∨ k = 1 ∨ k = 2 ∨ k = 3 ∨ k = 4 ∨ k = 5 ∨ k = 6 ∨ k = 7 ∨ k = 8 ∨ k = 9 ∨ k = 10 ∨ k = 11 ∨ k = 12 := by omega
  all_goals rfl
theorem next3 (w : World) : CellsI (w.alloc (.cells #[.int .i64 1, .int .i64 2, .int .i64 3] 3)) w.heap.size 3 (nexts) := by
  intro k hk
  rw [← add_plain, cell_new]
  obtain rfl | rfl | rfl : k = 0 ∨ k = 1 ∨ k = 2 := by omega
  all_goals rfl
theorem next11 (w : World) : CellsI (w.alloc (.cells #[.int .i64 1, .int .i64 2, .int .i64 3, .int .i64 4, .int .i64 5, .int .i64 6, .int .i64 7, .int .i64 8, .int .i64 9, .int .i64 10, .int .i64 11] 3)) w.heap.size 11 (nexts) := by
  intro k hk
  rw [← add_plain, cell_new]
  obtain rfl | rfl | rfl | rfl | rfl | rfl | rfl | rfl | rfl | rfl | rfl : k = 0 ∨ k = 1 ∨ k = 2 ∨ k = 3 ∨ k = 4 ∨ k = 5 ∨ k = 6 ∨ k = 7 ∨ k = 8 ∨ k = 9 ∨ k = 10 := by omega
  all_goals rfl

set_option maxHeartbeats 4000000 in
theorem topNames_any (w : World) : Calls Try.prog 7 #[] w fun e w' => e = .returned (.bool true) ∧ Below w.heap.size w w' := by
  go_enter Try.func7, Try.ntmps7
  go_wp2
  go_loopw [13] (fun vi wr => ∃ k : Nat, vi = .int .i64 k ∧ k ≤ 9 ∧ CellsI wr w.heap.size 9 (fun k => (k : Int)) ∧ Below w.heap.size w wr) (fun vi _ => 9 - (intOf vi).toNat)
  case atStart => exact ⟨0, rfl, by omega, kinds9 w, below_new _ _⟩
  case round =>
    obtain ⟨k, rfl, hk, hc, hb⟩ := hrel
    by_cases hlt : k < 9
    · have hcell := hc k hlt
      go_wp2
      go_roundw
      case rel => exact ⟨k + 1, by go_num, by omega, hc, hb⟩
      case measure => simp [intOf]; omega
    · clear hc
      go_wp2
      obtain ⟨w1, rfl⟩ : ∃ w1 : World, w1 = wr := ⟨_, rfl⟩
      have hsz : ∀ o : Obj, (w1.alloc o).heap.size = w1.heap.size + 1 := fun o => by simp
      go_loopw [27] (fun vi wr => ∃ k : Nat, vi = .int .i64 k ∧ k ≤ 13 ∧ CellsI wr w1.heap.size 13 lims ∧ CellsI wr (w1.heap.size + 1) 13 lims ∧ Below w.heap.size w wr) (fun vi _ => 13 - (intOf vi).toNat)
      case atStart => exact ⟨0, rfl, by omega, (lims13 w1).below (below_new _ _), by have h := lims13 (w1.alloc (.cells #[.int .i64 4000, .int .i64 60, .int .i64 40, .int .i64 300, .int .i64 10, .int .i64 12, .int .i64 6, .int .i64 6, .int .i64 8, .int .i64 8, .int .i64 200, .int .i64 4096, .int .i64 1024] 3)); rw [hsz] at h; exact h, below_next hb (below_next (below_new _ _) (below_new _ _))⟩
      case round =>
        clear hb hsz
        obtain ⟨k2, rfl, hk2, hc1, hc2, hb⟩ := hrel
        by_cases hlt2 : k2 < 13
        · have hcell1 := hc1 k2 hlt2
          have hcell2 := hc2 k2 hlt2
          generalize lims k2 = x at hcell1 hcell2
          go_wp2
          go_quiet (fail)
          go_wp2
          go_roundw
          case rel => exact ⟨k2 + 1, by go_num, by omega, hc1.below (below_drewN (Below.refl _ _) _), hc2.below (below_drewN (Below.refl _ _) _), below_drewN hb _⟩
          case measure => simp [intOf]; omega
        · clear hc1 hc2
          go_wp2
          obtain ⟨w2, rfl⟩ : ∃ w2 : World, w2 = wr := ⟨_, rfl⟩
          go_loopw [43] (fun vi wr => ∃ k : Nat, vi = .int .i64 k ∧ k ≤ 3 ∧ CellsI wr w2.heap.size 3 nexts ∧ Below w.heap.size w wr) (fun vi _ => 3 - (intOf vi).toNat)
          case atStart => exact ⟨0, rfl, by omega, next3 w2, below_next hb (below_new _ _)⟩
          case round =>
            clear hb
            obtain ⟨k3, rfl, hk3, hc3, hb⟩ := hrel
            by_cases hlt3 : k3 < 3
            · have hcell3 : wr.cell? ⟨w2.heap.size, k3, none⟩ = some (.int .i64 ((k3 : Int) + 1)) := hc3 k3 hlt3
              go_wp2
              go_roundw
              case rel => exact ⟨k3 + 1, by go_num, by omega, hc3, hb⟩
              case measure => simp [intOf]; omega
            · clear hc3
              go_wp2
              obtain ⟨w3, rfl⟩ : ∃ w3 : World, w3 = wr := ⟨_, rfl⟩
              go_loopw [57] (fun vi wr => ∃ k : Nat, vi = .int .i64 k ∧ k ≤ 11 ∧ CellsI wr w3.heap.size 11 nexts ∧ Below w.heap.size w wr) (fun vi _ => 11 - (intOf vi).toNat)
              case atStart => exact ⟨0, rfl, by omega, next11 w3, below_next hb (below_new _ _)⟩
              case round =>
                clear hb
                obtain ⟨k4, rfl, hk4, hc4, hb⟩ := hrel
                by_cases hlt4 : k4 < 11
                · have hcell4 : wr.cell? ⟨w3.heap.size, k4, none⟩ = some (.int .i64 ((k4 : Int) + 1)) := hc4 k4 hlt4
                  go_wp2
                  go_roundw
                  case rel => exact ⟨k4 + 1, by go_num, by omega, hc4, hb⟩
                  case measure => simp [intOf]; omega
                · clear hc4
                  go_wp2_with fail
                  refine (of_any 2 _ (by omega)).mono ?_
                  rintro e w5 ⟨A5, n5, c5, rfl, h5, b5⟩
                  go_wp2_with fail
                  refine (of_any 1 _ (by omega)).mono ?_
                  rintro e w6 ⟨A6, n6, c6, rfl, h6, b6⟩
                  have l5 : n5 ≤ 2 := by rw [← h5.len]; exact canon_length_le (by omega)
                  have l6 : n6 ≤ 2 := by rw [← h6.len]; exact canon_length_le (by omega)
                  go_wp2_with fail
                  refine (cmp_any _ _ _ _ _ _ _ _ _ (h5.below b6) h6 (by omega) (by omega)).mono ?_
                  rw [V_canon, V_canon, cmpI_gt (by omega)]
                  rintro e w7 ⟨rfl, d7⟩
                  go_wp2
                  go_ret
                  exact ⟨rfl, below_next (below_next (below_next hb b5) b6) d7.below⟩
end Go.Proofs.Ythkblaodnfanfaa
