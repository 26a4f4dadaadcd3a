/- Arguments of the laws, opened: slices of slices of words. -/
import Derived.Test.YthkblaodnfanfaaR
import Derived.Test.YthkblaodnfanfaaN3
namespace Go.Proofs.Ythkblaodnfanfaa
open Go.ChangeShapes Go.WideShapes Go.ChangeAt Go.RowKit Go.Deep M

theorem cells37 : Try.prog.cellsOf 37 = 1 := by kernel_rfl

theorem open_cell {H : Type} {enc : TypeId × Value → H} {W : World} {fuel : Nat} {v : Value} {x : DataW H × List MemPlace}
    (h : DataW.trod enc Try.prog W 0 (fun _ => true) true fuel 37 [v] = some x) : ∃ a len cap xs, v = .slice a len cap ∧ Rd W a len cap xs := by
  rcases open_ints Try.underlying37 Try.underlying22 cells22 h with ⟨hcs, _⟩ | ⟨x, l, c, zs, hcs, _, hl, hm, hz, _, hcell, hwz⟩
  · simp at hcs
    subst hcs
    exact ⟨none, 0, 0, [], rfl, Rd.nil _ _ _⟩
  · simp at hcs
    subst hcs
    exact ⟨_, _, _, _, rfl, rd_of_ints hl (by simp at hz; omega) hcell hwz⟩

theorem lists_of {W : World} (x : Addr) (m : Nat) (Vs : Nat → Value) (h : ∀ i, i < m → W.cell? (x.add i) = some (Vs i) ∧ ∃ a len cap xs, Vs i = .slice a len cap ∧ Rd W a len cap xs) :
    ∃ L : List (List Nat), L.length = m ∧ ∀ j, j < m → ∃ (A' : Option Addr) (n' c' : Nat), W.cell? (x.add j) = some (.slice A' n' c') ∧ Rd W A' n' c' (L.getD j []) := by
  induction m with
  | zero => exact ⟨[], rfl, fun j hj => absurd hj (by omega)⟩
  | succ m ih =>
    obtain ⟨L, hl, hL⟩ := ih (fun i hi => h i (by omega))
    obtain ⟨hc, a, len, cap, xs, e, hr⟩ := h m (by omega)
    refine ⟨L ++ [xs], by simp [hl], fun j hj => ?_⟩
    by_cases hj2 : j < m
    · obtain ⟨A', n', c', h1, h2⟩ := hL j hj2
      refine ⟨A', n', c', h1, ?_⟩
      have : (L ++ [xs]).getD j [] = L.getD j [] := by
        simp only [List.getD_eq_getElem?_getD, List.getElem?_append, show j < L.length by omega, if_true]
      rw [this]; exact h2
    · obtain rfl : j = m := by omega
      refine ⟨a, len, cap, by rw [hc, e], ?_⟩
      have : (L ++ [xs]).getD j [] = xs := by
        simp [List.getD_eq_getElem?_getD, hl]
      rw [this]; exact hr

theorem open_lists {H : Type} {enc : TypeId × Value → H} {W : World} {base : Nat} {v : Value} {d : DataW H} {p : List MemPlace}
    (hv : Value.okWide Try.prog W .any base 40 v) (h : DataW.Trod enc Try.prog W 0 (fun _ => true) true 40 v d p) :
    ∃ a len cap L, v = .slice a len cap ∧ (RdL W a len cap L ∧ len ≤ 9223372036854775807) := by
  obtain ⟨a, len, cap, rfl⟩ := okWide_slice Try.underlying40 hv
  obtain ⟨fuel, hf⟩ := h
  rcases open_slice1 Try.underlying40 cells37 hf with ⟨hcs, _⟩ | ⟨x, l, c, m, n, Vs, D, Pl, hcs, _, hl, hm, hmm, _, hel⟩
  · simp [Value.cells] at hcs
    obtain ⟨rfl, rfl, rfl⟩ := hcs
    exact ⟨none, 0, 0, [], rfl, ⟨rfl, Nat.le_refl _, fun j hj => absurd hj (by omega)⟩, by omega⟩
  · simp [Value.cells] at hcs
    obtain ⟨rfl, rfl, rfl⟩ := hcs
    simp at hmm
    obtain ⟨L, hL, hrd⟩ := lists_of x len Vs (fun i hi => ⟨(hel i (by omega)).1, open_cell (hel i (by omega)).2⟩)
    refine ⟨some x, len, cap, L, rfl, ⟨hL, hl, fun j hj => ?_⟩, by unfold maxLen at hm; omega⟩
    obtain ⟨A', n', c', h1, h2⟩ := hrd j hj
    exact ⟨x, A', n', c', rfl, h1, h2⟩
end Go.Proofs.Ythkblaodnfanfaa
