/- Arguments of the laws, opened: an array of two words. -/
import Derived.Test.YthkblaodnfanfaaR
namespace Go.Proofs.Ythkblaodnfanfaa
open Go.ChangeShapes Go.WideShapes Go.ChangeAt Go.RowKit M

theorem cells62 : Try.prog.cellsOf 62 = 2 := by kernel_rfl
theorem open_pair {H : Type} {enc : TypeId × Value → H} {W : World} {base : Nat} {v : Value} {d : DataW H} {p : List MemPlace}
    (hv : Value.okWide Try.prog W .any base 62 v) (h : DataW.Trod enc Try.prog W 0 (fun _ => true) true 62 v d p) :
    ∃ x y : Nat, v = .agg #[.int .u32 x, .int .u32 y] ∧ x < 4294967296 ∧ y < 4294967296 := by
  simp only [Value.okWide, Try.underlying62] at hv
  obtain ⟨cs, rfl, hsz, _⟩ := hv
  rw [cells62] at hsz
  obtain ⟨c0, c1, rfl⟩ : ∃ c0 c1, cs = #[c0, c1] := by
    obtain ⟨l⟩ := cs
    match l, hsz with
    | [c0, c1], _ => exact ⟨c0, c1, rfl⟩
  obtain ⟨fuel, hf⟩ := h
  obtain ⟨xs, m, _, _, _, hl, hel⟩ := DataW.trod_array Try.underlying62 hf
  have h0 := hel 0 (by omega)
  have h1 := hel 1 (by omega)
  rw [cells22] at h0 h1
  simp [Value.cells] at h0 h1
  obtain ⟨y0, hy0⟩ : ∃ y0, xs[0]? = some y0 := ⟨_, List.getElem?_eq_getElem (by omega)⟩
  obtain ⟨y1, hy1⟩ : ∃ y1, xs[1]? = some y1 := ⟨_, List.getElem?_eq_getElem (by omega)⟩
  rw [hy0] at h0
  rw [hy1] at h1
  obtain ⟨a, e0, _, u0⟩ := DataW.trod_int Try.underlying22 h0
  obtain ⟨b, e1, _, u1⟩ := DataW.trod_int Try.underlying22 h1
  simp at e0 e1
  subst e0 e1
  obtain ⟨x, rfl, hx⟩ := word_of u0
  obtain ⟨y, rfl, hy⟩ := word_of u1
  exact ⟨x, y, rfl, hx, hy⟩
end Go.Proofs.Ythkblaodnfanfaa
