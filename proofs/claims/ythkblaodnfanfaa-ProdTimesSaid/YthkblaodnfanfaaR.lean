/- Arguments of the laws, opened: words, numbers, and slices of words, as the walks take them. -/
import Derived.Test.YthkblaodnfanfaaRows
import Derived.Test.YthkblaodnfanfaaK
import Derived.WalkKit
import Derived.ProofKit
import Derived.OpenShut
import Derived.ShutString
import Derived.ChangeOld
import Derived.Below
import Derived.SizedLaws
import Derived.Lib.SmallJoins
import Derived.Deep.Slices
namespace Go.Proofs.Ythkblaodnfanfaa
open Go.ChangeShapes Go.WideShapes Go.ChangeAt Go.RowKit M

theorem own : ownKnob Try.prog.godebug = none := by kernel_rfl
theorem laidOut : laidOutB Try.prog = true := by kernel_rfl
theorem cells22 : Try.prog.cellsOf 22 = 1 := by kernel_rfl

theorem word_of {x : Int} (h : (Lit.int .u32 x).wf = true) : ∃ n : Nat, x = n ∧ n < 4294967296 := by
  have := bounds_u32 h
  exact ⟨x.toNat, by omega, by omega⟩
theorem u64_of {x : Int} (h : (Lit.int .u64 x).wf = true) : ∃ n : Nat, x = n ∧ n < 18446744073709551616 := by
  have := bounds_u64 h
  exact ⟨x.toNat, by omega, by omega⟩

theorem rd_of_ints {w : World} {a : Addr} {len cap : Nat} {zs : List Int} (hl : len ≤ cap) (hz : len ≤ zs.length)
    (hc : ∀ i, i < zs.length → w.cell? (a.add i) = some (.int .u32 (zs.getD i 0))) (hw : ∀ n ∈ zs, (Lit.int .u32 n).wf = true) :
    Rd w (some a) len cap ((zs.take len).map Int.toNat) := by
  have hb : ∀ j, j < zs.length → ∃ n : Nat, zs.getD j 0 = n ∧ n < 4294967296 := by
    intro j hj
    rw [List.getD_eq_getElem?_getD, List.getElem?_eq_getElem hj]
    exact word_of (hw _ (List.getElem_mem hj))
  refine ⟨by rw [List.length_map, List.length_take]; omega, hl, ?_, fun _ => ⟨a, rfl, fun j hj => ?_⟩⟩
  · intro x hx
    obtain ⟨z, hz1, rfl⟩ := List.mem_map.1 hx
    obtain ⟨n, hn, hlt⟩ := word_of (hw z (List.mem_of_mem_take hz1))
    omega
  · obtain ⟨n, hn, hlt⟩ := hb j (by omega)
    rw [hc j (by omega), hn]
    have : ((zs.take len).map Int.toNat).getD j 0 = n := by
      simp only [List.getD_eq_getElem?_getD, List.getElem?_map, List.getElem?_take, hj, if_true] at hn ⊢
      rw [List.getElem?_eq_getElem (by omega)] at hn ⊢
      simp at hn ⊢
      omega
    rw [this]

theorem open_words {H : Type} {enc : TypeId × Value → H} {W : World} {base : Nat} {v : Value} {d : DataW H} {p : List MemPlace}
    (hv : Value.okWide Try.prog W .any base 37 v) (h : DataW.Trod enc Try.prog W 0 (fun _ => true) true 37 v d p) :
    ∃ a len cap xs, v = .slice a len cap ∧ Rd W a len cap xs := by
  obtain ⟨a, len, cap, rfl⟩ := okWide_slice Try.underlying37 hv
  obtain ⟨fuel, hf⟩ := h
  rcases open_ints Try.underlying37 Try.underlying22 cells22 hf with ⟨hcs, _⟩ | ⟨x, l, c, zs, hcs, _, hl, hm, hz, _, hcell, hwz⟩
  · simp [Value.cells] at hcs
    obtain ⟨rfl, rfl, rfl⟩ := hcs
    exact ⟨none, 0, 0, [], rfl, Rd.nil _ _ _⟩
  · simp [Value.cells] at hcs
    obtain ⟨rfl, rfl, rfl⟩ := hcs
    exact ⟨_, _, _, _, rfl, rd_of_ints hl (by simp at hz; omega) hcell hwz⟩
end Go.Proofs.Ythkblaodnfanfaa
